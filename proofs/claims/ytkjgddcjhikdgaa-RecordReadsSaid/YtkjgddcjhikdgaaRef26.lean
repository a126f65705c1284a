/- The contracts of the reference's records: Fits, at, Check. -/
import Derived.Test.YtkjgddcjhikdgaaRef08
namespace Go.Proofs.Ytkjgddcjhikdgaa
open Go Go.RowKit Go.Shelf

theorem fitsB_eq {x : Blt} {c kind : Int} (h1 : 1 ≤ c) (h2 : c ≤ 10) : fitsB x c kind = (decide (x.kind = kind) && fineB x c) := by
  have : checkB x c = if fineB x c then 0 else 8 := by rw [checkB, if_pos ⟨h1, by omega⟩]
  rw [fitsB, this]
  cases fineB x c <;> simp

set_option maxHeartbeats 400000 in
theorem fitsRef (S : Nat → Prop) (v : Value) (x : Blt) (c kind : Int) (w : World) (h : VBlt S w v x) :
    Calls Try.prog 75 #[v, .int .i64 c, .int .u8 kind] w fun e w' => e = .returned (.bool (decide (x.kind = kind) && fineB x c)) ∧ Below w.heap.size w w' := by
  have h0 := h
  obtain ⟨cc, d, rfl, hB⟩ := h
  obtain ⟨a, cap, rfl, rfl, hl, -, -, -⟩ := hB.open
  have hb0 : Below w.heap.size w (w.alloc (.cells #[.int .u8 x.kind, .slice a x.marks.length cap] 25)) := (Below.refl _ _).alloc (Nat.le_refl _) _
  have hF := fineRef S _ x c _ (h0.same (.of_below hb0))
  have HF := Lib.hid hF; clear hF
  by_cases hk : x.kind = kind
  · have hk' : (x.kind == kind) = true := by simpa using hk
    have Hk := Lib.hid hk; clear hk
    go_enter Try.func75, Try.ntmps75
    go_wp2_with (go_at_call 126; refine HF.out.mono ?_; rintro e w1 ⟨rfl, hb1⟩)
    go_ret
    exact ⟨ret_bool (by rw [decide_eq_true Hk.out, Bool.true_and]), hb0.trans (hb1.mono (by simp))⟩
  · have hk' : (x.kind == kind) = false := by simpa using hk
    have Hk := Lib.hid hk; clear hk
    go_enter Try.func75, Try.ntmps75
    go_wp2_with (go_at_call 126; refine HF.out.mono ?_; rintro e w1 ⟨rfl, hb1⟩)
    go_ret
    exact ⟨ret_bool (by rw [decide_eq_false Hk.out, Bool.false_and]), hb0⟩

set_option maxHeartbeats 400000 in
theorem atRef (S : Nat → Prop) (v : Value) (xs : List Btc) (nm : ByteArray) (w : World) (h : RBtcs S w v xs) :
    Calls Try.prog 76 #[v, .string nm] w fun e w' => e = .returned (.int .i64 (idxB (fun b => sameName b.name nm) xs)) ∧ w = w' := by
  obtain ⟨a, cap, rfl, h1, h2⟩ := RSl.shape h
  go_enter Try.func76, Try.ntmps76
  go_wp2
  go_loop [5] (fun i => ∃ k : Nat, k ≤ xs.length ∧ i = .int .i64 k ∧ Hid ((xs.take k).any (fun b => sameName b.name nm) = false)) (fun i => xs.length - (intOf i).toNat)
  case atStart => exact ⟨0, Nat.zero_le _, rfl, Lib.hid rfl⟩
  case round =>
    obtain ⟨k, hk, rfl, hg⟩ := hrel
    by_cases hlt : k < xs.length
    · obtain ⟨b, off, c, d, rfl, hS, hbw, hc, hd, hx⟩ := RSl.at2 h k hlt
      obtain ⟨a', cap', rfl, rfl, hl1, hl2, -⟩ := hx.open
      go_wp2
      · have he : (xs[k].name.toList == nm.toList) = true := by assumption
        go_ret
        exact ⟨ret_int (idxB_at hlt hg.out he).symm, rfl⟩
      · have he : (xs[k].name.toList == nm.toList) = false := by assumption
        go_round
        case rel => exact ⟨k + 1, by omega, by go_num, Lib.hid (by rw [any_take_succ _ _ _ hlt, hg.out]; exact he)⟩
        case measure => simp [intOf]; omega
    · go_wp2
      go_ret
      rw [List.take_of_length_le (by omega)] at hg
      exact ⟨ret_int (idxB_none hg.out).symm, rfl⟩

/-- No earlier batch has its name: the reference finds the batch at its own place. -/
theorem at_self {l : List Btc} {k : Nat} (hk : k < l.length) : (idxB (fun b : Btc => sameName b.name l[k].name) l = k) ↔ (l.take k).any (fun y => sameName y.name l[k].name) = false := by
  have hself : sameName l[k].name l[k].name = true := by simp [sameName]
  constructor
  · intro h
    cases ha : (l.take k).any (fun y => sameName y.name l[k].name)
    · rfl
    · exfalso
      obtain ⟨i, hi, hp, hle⟩ : ∃ i, ∃ hi : i < l.length, sameName l[i].name l[k].name = true ∧ i < k ∧ (l.take i).any (fun y => sameName y.name l[k].name) = false := by
        have hex : ∃ i, ∃ hi : i < l.length, i < k ∧ sameName l[i].name l[k].name = true := by
          obtain ⟨y, hy, hp⟩ := List.any_eq_true.1 ha
          obtain ⟨i, hi, rfl⟩ := List.getElem_of_mem hy
          simp only [List.length_take] at hi
          rw [List.getElem_take] at hp
          exact ⟨i, by omega, by omega, hp⟩
        have key : ∀ n, ∀ i (hi : i < l.length), i < k → sameName l[i].name l[k].name = true → i ≤ n → ∃ i, ∃ hi : i < l.length, sameName l[i].name l[k].name = true ∧ i < k ∧ (l.take i).any (fun y => sameName y.name l[k].name) = false := by
          intro n
          induction n with
          | zero => intro i hi hik hp hn; exact ⟨0, by omega, by obtain rfl : i = 0 := (by omega); exact hp, by omega, rfl⟩
          | succ n ih =>
            intro i hi hik hp hn
            cases hany : (l.take i).any (fun y => sameName y.name l[k].name)
            · exact ⟨i, hi, hp, hik, hany⟩
            · obtain ⟨y, hy, hp'⟩ := List.any_eq_true.1 hany
              obtain ⟨j, hj, rfl⟩ := List.getElem_of_mem hy
              simp only [List.length_take] at hj
              rw [List.getElem_take] at hp'
              exact ih j (by omega) (by omega) hp' (by omega)
        obtain ⟨i, hi, hik, hp⟩ := hex
        exact key i i hi hik hp (Nat.le_refl _)
      have := idxB_at (p := fun b : Btc => sameName b.name l[k].name) hi hle.2 hp
      omega
  · intro h
    exact idxB_at hk h hself
end Go.Proofs.Ytkjgddcjhikdgaa
