/- The contracts of package ballot's checks. -/
import Derived.Test.YtkjgddcjhikdgaaSpec
import Derived.Test.YtkjgddcjhikdgaaProg
import Derived.WalkKit
import Derived.WalkSpells
import Derived.WalkLawsBesides
import Derived.Lib.Hide
import Derived.Deep.QuietTactic
import Derived.BigQuiet
namespace Go.Proofs.Ytkjgddcjhikdgaa
open Go Go.RowKit

set_option maxHeartbeats 400000 in
theorem within_t (n lo hi : Int) (w : World) (h1 : lo ≤ n) (h2 : n < hi) :
    Calls Try.prog 159 #[.int .i64 n, .int .i64 lo, .int .i64 hi] w fun e w' => e = .returned (.bool true) ∧ w = w' := by
  go_enter Try.func159, Try.ntmps159
  go_wp2
  go_ret
  exact ⟨rfl, rfl⟩
set_option maxHeartbeats 400000 in
theorem within_f (n lo hi : Int) (w : World) (h : ¬ (lo ≤ n ∧ n < hi)) :
    Calls Try.prog 159 #[.int .i64 n, .int .i64 lo, .int .i64 hi] w fun e w' => e = .returned (.bool false) ∧ w = w' := by
  by_cases h1 : lo ≤ n
  · have h2 : hi ≤ n := by omega
    clear h
    go_enter Try.func159, Try.ntmps159
    go_wp2
    go_ret
    exact ⟨ret_bool (decide_eq_false (by omega)), rfl⟩
  · clear h
    go_enter Try.func159, Try.ntmps159
    go_wp2
    go_ret
    exact ⟨rfl, rfl⟩

set_option maxHeartbeats 400000 in
theorem isNaN_any (n : Int) (w : World) : Calls Try.prog 204 #[.int .i64 n] w fun e w' => e = .returned (.bool false) ∧ w = w' := by
  go_enter Try.func204, Try.ntmps204
  go_wp2
  go_ret
  exact ⟨rfl, rfl⟩
set_option maxHeartbeats 400000 in
theorem less_any (n m : Int) (w : World) : Calls Try.prog 197 #[.int .i64 n, .int .i64 m] w fun e w' => e = .returned (.bool (decide (n < m))) ∧ w' = w := by
  go_enter Try.func197, Try.ntmps197
  go_wp2_with (go_at_call 204; refine (isNaN_any _ _).mono ?_; rintro e w1 ⟨rfl, rfl⟩)
  go_ret
  exact ⟨rfl, rfl⟩

set_option maxHeartbeats 1000000 in
theorem isSorted (S : Nat → Prop) (v : Value) (xs : List Int) (w : World) (h : RInts S w v xs) :
    Calls Try.prog 189 #[v] w fun e w' => e = .returned (.bool (upB xs)) ∧ Below w.heap.size w w' := by
  obtain ⟨a, cap, rfl, h1, h2⟩ := RSl.shape h
  go_enter Try.func189, Try.ntmps189
  go_wp2
  go_loopw [3] (fun i wr => ∃ n : Int, -1 ≤ n ∧ n < xs.length ∧ i = .int .i64 n ∧ Hid (∀ i, (h : i + 1 < xs.length) → n < i + 1 → xs[i] ≤ xs[i + 1]) ∧ Below w.heap.size w wr) (fun i _ => (intOf i).toNat)
  case atStart => exact ⟨xs.length - 1, by omega, by omega, by go_num, Lib.hid (fun i hi hk => by omega), Below.refl _ _⟩
  case round =>
    obtain ⟨n, hn1, hn2, rfl, hg, hb⟩ := hrel
    by_cases hlt : 0 < n
    · obtain ⟨j, rfl⟩ : ∃ j : Nat, n = (j : Int) + 1 := ⟨(n - 1).toNat, by omega⟩
      obtain ⟨b, off, c, rfl, hS, hbw, hc, hx⟩ := RSl.at1 (h.same (.of_below hb)) (j + 1) (by omega)
      obtain ⟨rfl, -⟩ := hx.open
      obtain ⟨b2, off2, c2, he, hS2, hbw2, hc2, hx2⟩ := RSl.at1 (h.same (.of_below hb)) j (by omega)
      obtain ⟨rfl, -⟩ := hx2.open
      simp only [Option.some.injEq, Addr.mk.injEq, and_true] at he
      obtain ⟨rfl, rfl⟩ := he
      have hj : j + 1 < xs.length := by omega
      go_wp2
      go_quiet ((go_at_call 197; exact Calls.quiet_of_same (less_any _ _ _)))
      go_wp2
      · have hlt : xs[j + 1] < xs[j] := by assumption
        go_ret
        exact ⟨ret_bool (upB_false j hj hlt).symm, below_drewN hb _⟩
      · have hle : xs[j] ≤ xs[j + 1] := by assumption
        refine ⟨⟨j, by omega, by omega, rfl, Lib.hid (fun i hi hk => ?_), below_drewN hb _⟩, by simp [intOf]⟩
        by_cases e : i = j
        · subst e; exact hle
        · exact hg.out i hi (by omega)
    · go_wp2
      go_ret
      exact ⟨ret_bool (upB_of fun i hi => hg.out i hi (by omega)).symm, hb⟩

/-- Block g is the array of what has been seen. -/
def Seen (g : Nat) (w : World) (l : List Int) : Prop := ∀ i : Nat, i < 10 → w.cell? ⟨g, i, none⟩ = some (.bool (decide ((i : Int) ∈ l))) ∧ w.frozen? ⟨g, i, none⟩ = false
theorem Seen.set {g : Nat} {w : World} {l : List Int} (h : Seen g w l) {m : Int} (h0 : 0 ≤ m) (hm : m < 10) : Seen g (w.setCell ⟨g, m.toNat, none⟩ (.bool true)) (l ++ [m]) := by
  intro i hi
  refine ⟨?_, by rw [World.frozen?_setCell]; exact (h i hi).2⟩
  by_cases e : i = m.toNat
  · subst e
    rw [World.cell?_setCell_same' _ _ _ (by rw [(h _ hi).1]; rfl)]
    have : ((m.toNat : Nat) : Int) = m := Int.toNat_of_nonneg h0
    simp [this]
  · rw [World.cell?_setCell_other _ _ _ _ (by simp), (h i hi).1]
    have : ¬ (i : Int) = m := by omega
    simp [this]
theorem Seen.start {g : Nat} {w : World} {e : TypeId} (h : w.heap[g]? = some (.cells #[.bool false, .bool false, .bool false, .bool false, .bool false, .bool false, .bool false, .bool false, .bool false, .bool false] e (0, 0))) : Seen g w [] := by
  intro i hi
  refine ⟨?_, by simp [World.frozen?, h]⟩
  rw [cell_of_row w g i _ e (0, 0) h]
  match i, hi with
  | 0, _ => rfl
  | 1, _ => rfl
  | 2, _ => rfl
  | 3, _ => rfl
  | 4, _ => rfl
  | 5, _ => rfl
  | 6, _ => rfl
  | 7, _ => rfl
  | 8, _ => rfl
  | 9, _ => rfl

/-- The loop over the marks says yes. -/
def FineGives (b : Bool) (w : World) (e : Ending) (w' : World) : Prop := e = .returned (.bool b) ∧ Below w.heap.size w w'

set_option maxHeartbeats 1000000 in
theorem fine_score (S : Nat → Prop) (v : Value) (x : Blt) (c : Int) (w : World) (h : VBlt S w v x) (h3 : x.kind = 3) :
    Calls Try.prog 160 #[v, .int .i64 c] w (FineGives (inB 11 x.marks && decide ((x.marks.length : Int) = c)) w) := by
  obtain ⟨kind, marks⟩ := x
  obtain ⟨cc, d, rfl, hB⟩ := h
  obtain ⟨a, cap, rfl, rfl, hl, -, -, h⟩ := hB.open
  clear hB
  simp only at h3 h hl ⊢
  subst h3
  have hb0 : Below w.heap.size w (w.alloc (.cells #[.int .u8 3, .slice a marks.length cap] 25)) := (Below.refl _ _).alloc (Nat.le_refl _) _
  go_enter Try.func160, Try.ntmps160
  go_wp2
  go_loopw [13] (fun i wr => ∃ k : Nat, k ≤ marks.length ∧ i = .int .i64 k ∧ Hid (∀ j, (hj : j < marks.length) → j < k → 0 ≤ marks[j] ∧ marks[j] < 11) ∧ wr = w.alloc (.cells #[.int .u8 3, .slice a marks.length cap] 25)) (fun i _ => marks.length - (intOf i).toNat)
  case atStart => exact ⟨0, Nat.zero_le _, rfl, Lib.hid (fun j _ h => by omega), rfl⟩
  case round =>
    obtain ⟨k, hk, rfl, hg, rfl⟩ := hrel
    by_cases hlt : k < marks.length
    · obtain ⟨b, off, c0, rfl, hS, hbw, hc, hx⟩ := RSl.at1 (h.same (.of_below hb0)) k hlt
      obtain ⟨rfl, -⟩ := hx.open
      by_cases hin : 0 ≤ marks[k] ∧ marks[k] < 11
      · go_wp2_with (go_at_call 159; refine (within_t _ _ _ _ hin.1 hin.2).mono ?_; rintro e w1 ⟨rfl, rfl⟩)
        refine ⟨⟨k + 1, by omega, by go_num, Lib.hid (fun j hj hjk => ?_), trivial⟩, by simp [intOf]; omega⟩
        by_cases e : j = k
        · subst e; exact hin
        · exact hg.out j hj (by omega)
      · go_wp2_with (go_at_call 159; refine (within_f _ _ _ _ hin).mono ?_; rintro e w1 ⟨rfl, rfl⟩)
        go_ret
        exact ⟨ret_bool (by rw [inB_false k hlt hin]; rfl), hb0⟩
    · have hin : inB 11 marks = true := List.all_eq_true.2 (fun m hm => by obtain ⟨j, hj, rfl⟩ := List.getElem_of_mem hm; exact decide_eq_true (hg.out j hj (by omega)))
      have Hin := Lib.hid hin; clear hin
      go_wp2
      go_ret
      exact ⟨ret_bool (by rw [Hin.out]; rfl), hb0⟩

set_option maxHeartbeats 1000000 in
theorem fine_rank (S : Nat → Prop) (v : Value) (x : Blt) (c : Int) (w : World) (h : VBlt S w v x) (h3 : x.kind = 1) (hc10 : c ≤ 10) :
    Calls Try.prog 160 #[v, .int .i64 c] w (FineGives (inB c x.marks && onceB x.marks) w) := by
  obtain ⟨kind, marks⟩ := x
  obtain ⟨cc, d, rfl, hB⟩ := h
  obtain ⟨a, cap, rfl, rfl, hl, -, -, h⟩ := hB.open
  clear hB
  simp only at h3 h hl ⊢
  subst h3
  have hb0 : Below w.heap.size w (w.alloc (.cells #[.int .u8 1, .slice a marks.length cap] 25)) := (Below.refl _ _).alloc (Nat.le_refl _) _
  go_enter Try.func160, Try.ntmps160
  go_wp2
  go_loopw [13] (fun i wr => ∃ k : Nat, k ≤ marks.length ∧ i = .int .i64 k ∧ Hid (∀ j, (hj : j < marks.length) → j < k → 0 ≤ marks[j] ∧ marks[j] < c) ∧ wr = w.alloc (.cells #[.int .u8 1, .slice a marks.length cap] 25)) (fun i _ => marks.length - (intOf i).toNat)
  case atStart => exact ⟨0, Nat.zero_le _, rfl, Lib.hid (fun j _ h => by omega), rfl⟩
  case round =>
    obtain ⟨k, hk, rfl, hg, rfl⟩ := hrel
    by_cases hlt : k < marks.length
    · obtain ⟨b, off, c0, rfl, hS, hbw, hc, hx⟩ := RSl.at1 (h.same (.of_below hb0)) k hlt
      obtain ⟨rfl, -⟩ := hx.open
      by_cases hin : 0 ≤ marks[k] ∧ marks[k] < c
      · go_wp2_with (go_at_call 159; refine (within_t _ _ _ _ hin.1 hin.2).mono ?_; rintro e w1 ⟨rfl, rfl⟩)
        refine ⟨⟨k + 1, by omega, by go_num, Lib.hid (fun j hj hjk => ?_), trivial⟩, by simp [intOf]; omega⟩
        by_cases e : j = k
        · subst e; exact hin
        · exact hg.out j hj (by omega)
      · go_wp2_with (go_at_call 159; refine (within_f _ _ _ _ hin).mono ?_; rintro e w1 ⟨rfl, rfl⟩)
        go_ret
        exact ⟨ret_bool (by rw [inB_false k hlt hin]; rfl), hb0⟩
    · have hin : inB c marks = true := List.all_eq_true.2 (fun m hm => by obtain ⟨j, hj, rfl⟩ := List.getElem_of_mem hm; exact decide_eq_true (hg.out j hj (by omega)))
      have Hin := Lib.hid hin; clear hin
      go_wp2
      go_loopw [57] (fun i wr => ∃ k : Nat, k ≤ marks.length ∧ i = .int .i64 k ∧ Seen (w.heap.size + 1) wr (marks.take k) ∧ Hid (∀ k', (hk' : k' < marks.length) → k' < k → ∀ j, (hj : j < k') → marks[j] ≠ marks[k']) ∧ Below w.heap.size w wr ∧ w.heap.size + 1 < wr.heap.size) (fun i _ => marks.length - (intOf i).toNat)
      case atStart => exact ⟨0, Nat.zero_le _, rfl, Seen.start (by simpa using box_new (w.alloc (.cells #[.int .u8 1, .slice a marks.length cap] 25)) (.cells #[.bool false, .bool false, .bool false, .bool false, .bool false, .bool false, .bool false, .bool false, .bool false, .bool false] 232)), Lib.hid (fun _ _ h => by omega), hb0.alloc (by simp) _, by simp⟩
      case round =>
        obtain ⟨k, hk, rfl, hs, hone, hb, hz⟩ := hrel
        by_cases hlt : k < marks.length
        · obtain ⟨b, off, c0, rfl, hS, hbw, hc, hx⟩ := RSl.at1 (h.same (.of_below hb)) k hlt
          obtain ⟨rfl, -⟩ := hx.open
          obtain ⟨hm0, hm1⟩ := inB_get Hin.out k hlt
          obtain ⟨hs1, hs2⟩ := hs marks[k].toNat (by omega)
          rw [Int.toNat_of_nonneg hm0] at hs1
          have hm10 : marks[k] < 10 := by omega
          by_cases hmem : marks[k] ∈ marks.take k
          · have hd : decide (marks[k] ∈ marks.take k) = true := decide_eq_true hmem
            rw [hd] at hs1; clear hd
            have Hm := Lib.hid hmem; clear hmem
            go_wp2
            go_ret
            have hf : onceB marks = false := by
              obtain ⟨i, hi, he⟩ := List.getElem_of_mem Hm.out
              simp only [List.length_take] at hi
              rw [List.getElem_take] at he
              exact onceB_false i k (by omega) hlt he
            exact ⟨ret_bool (by rw [hf, Bool.and_false]), hb⟩
          · have hd : decide (marks[k] ∈ marks.take k) = false := decide_eq_false hmem
            rw [hd] at hs1; clear hd
            have Hm := Lib.hid hmem; clear hmem
            go_wp2
            refine ⟨⟨k + 1, by omega, by go_num, by rw [List.take_succ_eq_append_getElem hlt]; exact hs.set hm0 hm10, Lib.hid (fun k' hk' hlt' j hj => ?_), hb.setCell (p := ⟨w.heap.size + 1, marks[k].toNat, none⟩) (by simp) _, by simpa using hz⟩, by simp [intOf]; omega⟩
            by_cases e : k' = k
            · subst e
              exact fun he => Hm.out (List.mem_take_iff_getElem.2 ⟨j, by omega, he⟩)
            · exact hone.out k' hk' (by omega) j hj
        · go_wp2
          go_ret
          have ht : onceB marks = true := onceB_of (fun k' hk' j hj => hone.out k' hk' (by omega) j hj)
          exact ⟨ret_bool (by rw [Hin.out, ht]; rfl), hb⟩

set_option maxHeartbeats 1000000 in
theorem fine_mark (S : Nat → Prop) (v : Value) (x : Blt) (c : Int) (w : World) (h : VBlt S w v x) (h3 : x.kind = 2) (hc10 : c ≤ 10) :
    Calls Try.prog 160 #[v, .int .i64 c] w (FineGives (inB c x.marks && (upB x.marks && onceB x.marks)) w) := by
  obtain ⟨kind, marks⟩ := x
  obtain ⟨cc, d, rfl, hB⟩ := h
  obtain ⟨a, cap, rfl, rfl, hl, -, -, h⟩ := hB.open
  clear hB
  simp only at h3 h hl ⊢
  subst h3
  have hb0 : Below w.heap.size w (w.alloc (.cells #[.int .u8 2, .slice a marks.length cap] 25)) := (Below.refl _ _).alloc (Nat.le_refl _) _
  go_enter Try.func160, Try.ntmps160
  go_wp2
  go_loopw [13] (fun i wr => ∃ k : Nat, k ≤ marks.length ∧ i = .int .i64 k ∧ Hid (∀ j, (hj : j < marks.length) → j < k → 0 ≤ marks[j] ∧ marks[j] < c) ∧ wr = w.alloc (.cells #[.int .u8 2, .slice a marks.length cap] 25)) (fun i _ => marks.length - (intOf i).toNat)
  case atStart => exact ⟨0, Nat.zero_le _, rfl, Lib.hid (fun j _ h => by omega), rfl⟩
  case round =>
    obtain ⟨k, hk, rfl, hg, rfl⟩ := hrel
    by_cases hlt : k < marks.length
    · obtain ⟨b, off, c0, rfl, hS, hbw, hc, hx⟩ := RSl.at1 (h.same (.of_below hb0)) k hlt
      obtain ⟨rfl, -⟩ := hx.open
      by_cases hin : 0 ≤ marks[k] ∧ marks[k] < c
      · go_wp2_with (go_at_call 159; refine (within_t _ _ _ _ hin.1 hin.2).mono ?_; rintro e w1 ⟨rfl, rfl⟩)
        refine ⟨⟨k + 1, by omega, by go_num, Lib.hid (fun j hj hjk => ?_), trivial⟩, by simp [intOf]; omega⟩
        by_cases e : j = k
        · subst e; exact hin
        · exact hg.out j hj (by omega)
      · go_wp2_with (go_at_call 159; refine (within_f _ _ _ _ hin).mono ?_; rintro e w1 ⟨rfl, rfl⟩)
        go_ret
        exact ⟨ret_bool (by rw [inB_false k hlt hin]; rfl), hb0⟩
    · have hin : inB c marks = true := List.all_eq_true.2 (fun m hm => by obtain ⟨j, hj, rfl⟩ := List.getElem_of_mem hm; exact decide_eq_true (hg.out j hj (by omega)))
      have Hin := Lib.hid hin; clear hin
      have hgA : (w.alloc (.cells #[.int .u8 2, .slice a marks.length cap] 25)).heap[w.heap.size]? = some (.cells #[.int .u8 2, .slice a marks.length cap] 25 (0, 0)) := box_new _ _
      have hI := isSorted S (.slice a marks.length cap) marks (w.alloc (.cells #[.int .u8 2, .slice a marks.length cap] 25)) (h.same (.of_below hb0))
      by_cases hup : upB marks = false
      · rw [hup] at hI
        have HI := Lib.hid hI; clear hI
        have Hup := Lib.hid hup; clear hup
        go_wp2_with (go_at_call 189; refine HI.out.mono ?_; rintro e w1 ⟨rfl, hb1⟩)
        go_ret
        exact ⟨ret_bool (by rw [Hup.out]; simp), hb0.trans (hb1.mono (by simp))⟩
      rw [Bool.not_eq_false] at hup
      rw [hup] at hI
      have HI := Lib.hid hI; clear hI
      have Hup := Lib.hid hup; clear hup
      go_wp2_with (go_at_call 189; refine HI.out.mono ?_; rintro e w1 ⟨rfl, hb1⟩; obtain ⟨g1, hc1, hf1⟩ := own_box hb1 (by simp) hgA; have hz1 : w.heap.size < w1.heap.size := by have := hb1.size; simp at this; omega)
      have hb2 := hb0.trans (hb1.mono (by simp))
      go_loopw [57] (fun i wr => ∃ k : Nat, k ≤ marks.length ∧ i = .int .i64 k ∧ Seen (w1.heap.size) wr (marks.take k) ∧ Hid (∀ k', (hk' : k' < marks.length) → k' < k → ∀ j, (hj : j < k') → marks[j] ≠ marks[k']) ∧ Below w.heap.size w wr ∧ w1.heap.size < wr.heap.size) (fun i _ => marks.length - (intOf i).toNat)
      case atStart => exact ⟨0, Nat.zero_le _, rfl, Seen.start (box_new w1 (.cells #[.bool false, .bool false, .bool false, .bool false, .bool false, .bool false, .bool false, .bool false, .bool false, .bool false] 232)), Lib.hid (fun _ _ h => by omega), hb2.alloc (by omega) _, by simp⟩
      case round =>
        obtain ⟨k, hk, rfl, hs, hone, hb, hz⟩ := hrel
        by_cases hlt : k < marks.length
        · obtain ⟨b, off, c0, rfl, hS, hbw, hc, hx⟩ := RSl.at1 (h.same (.of_below hb)) k hlt
          obtain ⟨rfl, -⟩ := hx.open
          obtain ⟨hm0, hm1⟩ := inB_get Hin.out k hlt
          obtain ⟨hs1, hs2⟩ := hs marks[k].toNat (by omega)
          rw [Int.toNat_of_nonneg hm0] at hs1
          have hm10 : marks[k] < 10 := by omega
          by_cases hmem : marks[k] ∈ marks.take k
          · have hd : decide (marks[k] ∈ marks.take k) = true := decide_eq_true hmem
            rw [hd] at hs1; clear hd
            have Hm := Lib.hid hmem; clear hmem
            go_wp2
            go_ret
            have hf : onceB marks = false := by
              obtain ⟨i, hi, he⟩ := List.getElem_of_mem Hm.out
              simp only [List.length_take] at hi
              rw [List.getElem_take] at he
              exact onceB_false i k (by omega) hlt he
            exact ⟨ret_bool (by rw [hf, Bool.and_false, Bool.and_false]), hb⟩
          · have hd : decide (marks[k] ∈ marks.take k) = false := decide_eq_false hmem
            rw [hd] at hs1; clear hd
            have Hm := Lib.hid hmem; clear hmem
            go_wp2
            refine ⟨⟨k + 1, by omega, by go_num, by rw [List.take_succ_eq_append_getElem hlt]; exact hs.set hm0 hm10, Lib.hid (fun k' hk' hlt' j hj => ?_), hb.setCell (p := ⟨w1.heap.size, marks[k].toNat, none⟩) (by simp; omega) _, by simpa using hz⟩, by simp [intOf]; omega⟩
            by_cases e : k' = k
            · subst e
              exact fun he => Hm.out (List.mem_take_iff_getElem.2 ⟨j, by omega, he⟩)
            · exact hone.out k' hk' (by omega) j hj
        · go_wp2
          go_ret
          have ht : onceB marks = true := onceB_of (fun k' hk' j hj => hone.out k' hk' (by omega) j hj)
          exact ⟨ret_bool (by rw [Hin.out, Hup.out, ht]; rfl), hb⟩

end Go.Proofs.Ytkjgddcjhikdgaa
