/- The contracts of ballot.fine at every kind, of ballot.Check, and of the row's fits. -/
import Derived.Test.YtkjgddcjhikdgaaBal
namespace Go.Proofs.Ytkjgddcjhikdgaa
open Go Go.RowKit

set_option maxHeartbeats 1000000 in
theorem fine_else (S : Nat → Prop) (v : Value) (x : Blt) (c : Int) (w : World) (h : VBlt S w v x) (h1 : x.kind ≠ 1) (h2 : x.kind ≠ 2) (h3 : x.kind ≠ 3) :
    Calls Try.prog 160 #[v, .int .i64 c] w (FineGives false w) := by
  obtain ⟨kind, marks⟩ := x
  obtain ⟨cc, d, rfl, hB⟩ := h
  obtain ⟨a, cap, rfl, rfl, hl, -, -, h⟩ := hB.open
  clear hB
  simp only at h1 h2 h3 h hl ⊢
  have e1 : (kind == 1) = false := by simpa using h1
  have e2 : (kind == 2) = false := by simpa using h2
  have e3 : (kind == 3) = false := by simpa using h3
  have e4 : (kind != 3) = true := by simpa using h3
  clear h1 h2 h3
  have hb0 : Below w.heap.size w (w.alloc (.cells #[.int .u8 kind, .slice a marks.length cap] 25)) := (Below.refl _ _).alloc (Nat.le_refl _) _
  go_enter Try.func160, Try.ntmps160
  go_wp2
  go_loopw [13] (fun i wr => ∃ k : Nat, k ≤ marks.length ∧ i = .int .i64 k ∧ wr = w.alloc (.cells #[.int .u8 kind, .slice a marks.length cap] 25)) (fun i _ => marks.length - (intOf i).toNat)
  case atStart => exact ⟨0, Nat.zero_le _, rfl, rfl⟩
  case round =>
    obtain ⟨k, hk, rfl, rfl⟩ := hrel
    by_cases hlt : k < marks.length
    · obtain ⟨b, off, c0, rfl, hS, hbw, hc, hx⟩ := RSl.at1 (h.same (.of_below hb0)) k hlt
      obtain ⟨rfl, -⟩ := hx.open
      by_cases hin : 0 ≤ marks[k] ∧ marks[k] < c
      · go_wp2_with (go_at_call 159; refine (within_t _ _ _ _ hin.1 hin.2).mono ?_; rintro e w1 ⟨rfl, rfl⟩)
        exact ⟨⟨k + 1, by omega, by go_num, trivial⟩, by simp [intOf]; omega⟩
      · go_wp2_with (go_at_call 159; refine (within_f _ _ _ _ hin).mono ?_; rintro e w1 ⟨rfl, rfl⟩)
        go_ret
        exact ⟨rfl, hb0⟩
    · go_wp2
      go_ret
      exact ⟨rfl, hb0⟩

theorem fine_any (S : Nat → Prop) (v : Value) (x : Blt) (c : Int) (w : World) (h : VBlt S w v x) (hc : c ≤ 10) :
    Calls Try.prog 160 #[v, .int .i64 c] w (FineGives (fineB x c) w) := by
  unfold fineB
  by_cases h3 : x.kind = 3
  · rw [if_pos h3]; exact fine_score S v x c w h h3
  by_cases h2 : x.kind = 2
  · rw [if_neg h3, if_pos h2]; exact fine_mark S v x c w h h2 hc
  by_cases h1 : x.kind = 1
  · rw [if_neg h3, if_neg h2, if_pos h1]; exact fine_rank S v x c w h h1 hc
  · rw [if_neg h3, if_neg h2, if_neg h1]; exact fine_else S v x c w h h1 h2 h3

/-- ballot.Check's error. -/
def checkB (x : Blt) (c : Int) : Int := if 1 ≤ c ∧ c < 11 then (if fineB x c then 0 else 8) else 2

set_option maxHeartbeats 400000 in
theorem ballotCheck (S : Nat → Prop) (v : Value) (x : Blt) (c : Int) (w : World) (h : VBlt S w v x) :
    Calls Try.prog 122 #[v, .int .i64 c] w fun e w' => e = .returned (.int .i64 (checkB x c)) ∧ Below w.heap.size w w' := by
  have h0 := h
  obtain ⟨cc, d, rfl, hB⟩ := h
  obtain ⟨a, cap, rfl, rfl, hl, -, -, -⟩ := hB.open
  have hb0 : Below w.heap.size w (w.alloc (.cells #[.int .u8 x.kind, .slice a x.marks.length cap] 25)) := (Below.refl _ _).alloc (Nat.le_refl _) _
  by_cases hin : 1 ≤ c ∧ c < 11
  · have hF := fine_any S _ x c _ (h0.same (.of_below hb0)) (by omega)
    have hr : checkB x c = if fineB x c then 0 else 8 := by simp [checkB, hin]
    cases hf : fineB x c
    · rw [hf] at hF hr
      simp only [Bool.false_eq_true, if_false] at hr
      have HF := Lib.hid hF; have Hr := Lib.hid hr; clear hF hr hf
      go_enter Try.func122, Try.ntmps122
      go_wp2_with (first | (go_at_call 159; refine (within_t _ _ _ _ hin.1 hin.2).mono ?_; rintro e w1 ⟨rfl, rfl⟩) | (go_at_call 160; refine HF.out.mono ?_; rintro e w1 ⟨rfl, hb1⟩))
      go_ret
      exact ⟨ret_int Hr.out.symm, hb0.trans (hb1.mono (by simp))⟩
    · rw [hf] at hF hr
      simp only [if_true] at hr
      have HF := Lib.hid hF; have Hr := Lib.hid hr; clear hF hr hf
      go_enter Try.func122, Try.ntmps122
      go_wp2_with (first | (go_at_call 159; refine (within_t _ _ _ _ hin.1 hin.2).mono ?_; rintro e w1 ⟨rfl, rfl⟩) | (go_at_call 160; refine HF.out.mono ?_; rintro e w1 ⟨rfl, hb1⟩))
      go_ret
      exact ⟨ret_int Hr.out.symm, hb0.trans (hb1.mono (by simp))⟩
  · go_enter Try.func122, Try.ntmps122
    go_wp2_with (go_at_call 159; refine (within_f _ _ _ _ hin).mono ?_; rintro e w1 ⟨rfl, rfl⟩)
    go_ret
    exact ⟨ret_int (by simp only [checkB, if_neg hin]), hb0⟩
end Go.Proofs.Ytkjgddcjhikdgaa
