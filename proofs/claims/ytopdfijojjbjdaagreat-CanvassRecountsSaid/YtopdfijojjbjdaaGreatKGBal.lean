/- Texts of one claim, put together: Spec, Bal, Bal2, Name, Fits, Chk, Great. -/
import Derived.Test.YtopdfijojjbjdaaGreatKGFoot
import Derived.Test.YtopdfijojjbjdaaGreatProg
import Derived.Test.YtopdfijojjbjdaaGreatShelf
import Derived.WalkKit
import Derived.WalkSpells
import Derived.WalkLawsBesides
import Derived.Lib.Hide
import Derived.Deep.QuietTactic
import Derived.BigQuiet
import Derived.Shelf.Abstract

/- What is a valid ballot: plain definitions and lemmas; no program. -/
namespace Go.Proofs.YtopdfijojjbjdaaGreat

theorem any_take_succ {α : Type} (p : α → Bool) (l : List α) (k : Nat) (h : k < l.length) : (l.take (k + 1)).any p = ((l.take k).any p || p l[k]) := by
  rw [List.take_succ_eq_append_getElem h, List.any_append]
  simp
theorem any_of_get {α : Type} (p : α → Bool) (l : List α) (k : Nat) (h : k < l.length) (hp : p l[k] = true) : l.any p = true :=
  List.any_eq_true.2 ⟨l[k], List.getElem_mem h, hp⟩

/-- Ascending, neighbours compared. -/
def upB (l : List Int) : Bool := decide (l.Pairwise (· ≤ ·))
/-- No element twice. -/
def onceB (l : List Int) : Bool := decide l.Nodup
def inB (c : Int) (l : List Int) : Bool := l.all fun m => decide (0 ≤ m ∧ m < c)
def fineB (x : Blt) (c : Int) : Bool :=
  if x.kind = 3 then inB 11 x.marks && decide ((x.marks.length : Int) = c)
  else if x.kind = 2 then inB c x.marks && (upB x.marks && onceB x.marks)
  else if x.kind = 1 then inB c x.marks && onceB x.marks
  else false

theorem inB_get {c : Int} {l : List Int} (h : inB c l = true) (k : Nat) (hk : k < l.length) : 0 ≤ l[k] ∧ l[k] < c := by
  have := List.all_eq_true.1 h l[k] (List.getElem_mem hk)
  simpa using this
theorem inB_false {c : Int} {l : List Int} (k : Nat) (hk : k < l.length) (h : ¬ (0 ≤ l[k] ∧ l[k] < c)) : inB c l = false := by
  cases hb : inB c l
  · rfl
  · exact absurd (inB_get hb k hk) h
theorem onceB_get {l : List Int} (h : onceB l = true) (i k : Nat) (hik : i < k) (hk : k < l.length) : l[i] ≠ l[k] := by
  have := of_decide_eq_true h
  rw [List.nodup_iff_pairwise_ne, List.pairwise_iff_getElem] at this
  exact this i k (by omega) hk hik
theorem onceB_false {l : List Int} (i k : Nat) (hik : i < k) (hk : k < l.length) (h : l[i] = l[k]) : onceB l = false := by
  cases hb : onceB l
  · rfl
  · exact absurd h (onceB_get hb i k hik hk)
theorem onceB_of {l : List Int} (h : ∀ k, (hk : k < l.length) → ∀ i, (hi : i < k) → l[i] ≠ l[k]) : onceB l = true := by
  refine decide_eq_true ?_
  rw [List.nodup_iff_pairwise_ne, List.pairwise_iff_getElem]
  exact fun i j hi hj hij => h j hj i hij
theorem upB_get {l : List Int} (h : upB l = true) (i k : Nat) (hik : i < k) (hk : k < l.length) : l[i] ≤ l[k] := by
  have := of_decide_eq_true h
  rw [List.pairwise_iff_getElem] at this
  exact this i k (by omega) hk hik
theorem upB_false {l : List Int} (i : Nat) (h : i + 1 < l.length) (hlt : l[i + 1] < l[i]) : upB l = false := by
  cases hb : upB l
  · rfl
  · have := upB_get hb i (i + 1) (by omega) h
    omega
theorem up_far {l : List Int} (h : ∀ i, (h : i + 1 < l.length) → l[i] ≤ l[i + 1]) (i : Nat) : ∀ d, (hd : i + d < l.length) → l[i]'(by omega) ≤ l[i + d]
  | 0, _ => Int.le_refl _
  | d + 1, hd => Int.le_trans (up_far h i d (by omega)) (h (i + d) hd)
theorem upB_of {l : List Int} (h : ∀ i, (h : i + 1 < l.length) → l[i] ≤ l[i + 1]) : upB l = true := by
  refine decide_eq_true ?_
  rw [List.pairwise_iff_getElem]
  intro i j hi hj hij
  obtain ⟨d, rfl⟩ : ∃ d, j = i + d := ⟨j - i, by omega⟩
  exact up_far h i d hj
end Go.Proofs.YtopdfijojjbjdaaGreat

/- The contracts of package ballot's checks. -/
namespace Go.Proofs.YtopdfijojjbjdaaGreat
open Go Go.RowKit

set_option maxHeartbeats 400000 in
theorem within_t (n lo hi : Int) (w : World) (h1 : lo ≤ n) (h2 : n < hi) :
    Calls Tryz.prog 81 #[.int .i64 n, .int .i64 lo, .int .i64 hi] w fun e w' => e = .returned (.bool true) ∧ w = w' := by
  go_enter Tryz.func81, Tryz.ntmps81
  go_wp2
  go_ret
  exact ⟨rfl, rfl⟩
set_option maxHeartbeats 400000 in
theorem within_f (n lo hi : Int) (w : World) (h : ¬ (lo ≤ n ∧ n < hi)) :
    Calls Tryz.prog 81 #[.int .i64 n, .int .i64 lo, .int .i64 hi] w fun e w' => e = .returned (.bool false) ∧ w = w' := by
  by_cases h1 : lo ≤ n
  · have h2 : hi ≤ n := by omega
    clear h
    go_enter Tryz.func81, Tryz.ntmps81
    go_wp2
    go_ret
    exact ⟨ret_bool (decide_eq_false (by omega)), rfl⟩
  · clear h
    go_enter Tryz.func81, Tryz.ntmps81
    go_wp2
    go_ret
    exact ⟨rfl, rfl⟩

set_option maxHeartbeats 400000 in
theorem isNaN_any (n : Int) (w : World) : Calls Tryz.prog 105 #[.int .i64 n] w fun e w' => e = .returned (.bool false) ∧ w = w' := by
  go_enter Tryz.func105, Tryz.ntmps105
  go_wp2
  go_ret
  exact ⟨rfl, rfl⟩
set_option maxHeartbeats 400000 in
theorem less_any (n m : Int) (w : World) : Calls Tryz.prog 106 #[.int .i64 n, .int .i64 m] w fun e w' => e = .returned (.bool (decide (n < m))) ∧ w' = w := by
  go_enter Tryz.func106, Tryz.ntmps106
  go_wp2_with (go_at_call 105; refine (isNaN_any _ _).mono ?_; rintro e w1 ⟨rfl, rfl⟩)
  go_ret
  exact ⟨rfl, rfl⟩

set_option maxHeartbeats 1000000 in
theorem isSorted (S : Nat → Prop) (v : Value) (xs : List Int) (w : World) (h : RInts S w v xs) :
    Calls Tryz.prog 98 #[v] w fun e w' => e = .returned (.bool (upB xs)) ∧ Below w.heap.size w w' := by
  obtain ⟨a, cap, rfl, h1, h2⟩ := RSl.shape h
  go_enter Tryz.func98, Tryz.ntmps98
  go_wp2
  go_loopw [3] (fun i wr => ∃ n : Int, -1 ≤ n ∧ n < xs.length ∧ i = .int .i64 n ∧ Hid (∀ i, (h : i + 1 < xs.length) → n < i + 1 → xs[i] ≤ xs[i + 1]) ∧ Below w.heap.size w wr) (fun i _ => (intOf i).toNat)
  case atStart => exact ⟨xs.length - 1, by omega, by omega, by go_num, Lib.hid (fun i hi hk => by omega), Below.refl _ _⟩
  case round =>
    obtain ⟨n, hn1, hn2, rfl, hg, hb⟩ := hrel
    by_cases hlt : 0 < n
    · obtain ⟨j, rfl⟩ : ∃ j : Nat, n = (j : Int) + 1 := ⟨(n - 1).toNat, by omega⟩
      obtain ⟨b, off, c, rfl, hS, hbw, hc, hx⟩ := RSl.at1 (h.same (.of_below hb)) (j + 1) (by omega)
      obtain ⟨rfl, -⟩ := hx.open
      obtain ⟨b2, off2, c2, he, hS2, hbw2, hc2, hx2⟩ := RSl.at1 (h.same (.of_below hb)) j (by omega)
      obtain ⟨rfl, -⟩ := hx2.open
      simp only [Option.some.injEq, Addr.mk.injEq, and_true] at he
      obtain ⟨rfl, rfl⟩ := he
      have hj : j + 1 < xs.length := by omega
      go_wp2
      go_quiet ((go_at_call 106; exact Calls.quiet_of_same (less_any _ _ _)))
      go_wp2
      · have hlt : xs[j + 1] < xs[j] := by assumption
        go_ret
        exact ⟨ret_bool (upB_false j hj hlt).symm, below_drewN hb _⟩
      · have hle : xs[j] ≤ xs[j + 1] := by assumption
        refine ⟨⟨j, by omega, by omega, rfl, Lib.hid (fun i hi hk => ?_), below_drewN hb _⟩, by simp [intOf]⟩
        by_cases e : i = j
        · subst e; exact hle
        · exact hg.out i hi (by omega)
    · go_wp2
      go_ret
      exact ⟨ret_bool (upB_of fun i hi => hg.out i hi (by omega)).symm, hb⟩

/-- Block g is the array of what has been seen. -/
def Seen (g : Nat) (w : World) (l : List Int) : Prop := ∀ i : Nat, i < 10 → w.cell? ⟨g, i, none⟩ = some (.bool (decide ((i : Int) ∈ l))) ∧ w.frozen? ⟨g, i, none⟩ = false
theorem Seen.set {g : Nat} {w : World} {l : List Int} (h : Seen g w l) {m : Int} (h0 : 0 ≤ m) (hm : m < 10) : Seen g (w.setCell ⟨g, m.toNat, none⟩ (.bool true)) (l ++ [m]) := by
  intro i hi
  refine ⟨?_, by rw [World.frozen?_setCell]; exact (h i hi).2⟩
  by_cases e : i = m.toNat
  · subst e
    rw [World.cell?_setCell_same' _ _ _ (by rw [(h _ hi).1]; rfl)]
    have : ((m.toNat : Nat) : Int) = m := Int.toNat_of_nonneg h0
    simp [this]
  · rw [World.cell?_setCell_other _ _ _ _ (by simp), (h i hi).1]
    have : ¬ (i : Int) = m := by omega
    simp [this]
theorem Seen.start {g : Nat} {w : World} {e : TypeId} (h : w.heap[g]? = some (.cells #[.bool false, .bool false, .bool false, .bool false, .bool false, .bool false, .bool false, .bool false, .bool false, .bool false] e (0, 0))) : Seen g w [] := by
  intro i hi
  refine ⟨?_, by simp [World.frozen?, h]⟩
  rw [cell_of_row w g i _ e (0, 0) h]
  match i, hi with
  | 0, _ => rfl
  | 1, _ => rfl
  | 2, _ => rfl
  | 3, _ => rfl
  | 4, _ => rfl
  | 5, _ => rfl
  | 6, _ => rfl
  | 7, _ => rfl
  | 8, _ => rfl
  | 9, _ => rfl

/-- The loop over the marks says yes. -/
def FineGives (b : Bool) (w : World) (e : Ending) (w' : World) : Prop := e = .returned (.bool b) ∧ Below w.heap.size w w'

set_option maxHeartbeats 1000000 in
theorem fine_score (S : Nat → Prop) (v : Value) (x : Blt) (c : Int) (w : World) (h : VBlt S w v x) (h3 : x.kind = 3) :
    Calls Tryz.prog 82 #[v, .int .i64 c] w (FineGives (inB 11 x.marks && decide ((x.marks.length : Int) = c)) w) := by
  obtain ⟨kind, marks⟩ := x
  obtain ⟨cc, d, rfl, hB⟩ := h
  obtain ⟨a, cap, rfl, rfl, hl, -, -, h⟩ := hB.open
  clear hB
  simp only at h3 h hl ⊢
  subst h3
  have hb0 : Below w.heap.size w (w.alloc (.cells #[.int .u8 3, .slice a marks.length cap] 41)) := (Below.refl _ _).alloc (Nat.le_refl _) _
  go_enter Tryz.func82, Tryz.ntmps82
  go_wp2
  go_loopw [13] (fun i wr => ∃ k : Nat, k ≤ marks.length ∧ i = .int .i64 k ∧ Hid (∀ j, (hj : j < marks.length) → j < k → 0 ≤ marks[j] ∧ marks[j] < 11) ∧ wr = w.alloc (.cells #[.int .u8 3, .slice a marks.length cap] 41)) (fun i _ => marks.length - (intOf i).toNat)
  case atStart => exact ⟨0, Nat.zero_le _, rfl, Lib.hid (fun j _ h => by omega), rfl⟩
  case round =>
    obtain ⟨k, hk, rfl, hg, rfl⟩ := hrel
    by_cases hlt : k < marks.length
    · obtain ⟨b, off, c0, rfl, hS, hbw, hc, hx⟩ := RSl.at1 (h.same (.of_below hb0)) k hlt
      obtain ⟨rfl, -⟩ := hx.open
      by_cases hin : 0 ≤ marks[k] ∧ marks[k] < 11
      · go_wp2_with (go_at_call 81; refine (within_t _ _ _ _ hin.1 hin.2).mono ?_; rintro e w1 ⟨rfl, rfl⟩)
        refine ⟨⟨k + 1, by omega, by go_num, Lib.hid (fun j hj hjk => ?_), trivial⟩, by simp [intOf]; omega⟩
        by_cases e : j = k
        · subst e; exact hin
        · exact hg.out j hj (by omega)
      · go_wp2_with (go_at_call 81; refine (within_f _ _ _ _ hin).mono ?_; rintro e w1 ⟨rfl, rfl⟩)
        go_ret
        exact ⟨ret_bool (by rw [inB_false k hlt hin]; rfl), hb0⟩
    · have hin : inB 11 marks = true := List.all_eq_true.2 (fun m hm => by obtain ⟨j, hj, rfl⟩ := List.getElem_of_mem hm; exact decide_eq_true (hg.out j hj (by omega)))
      have Hin := Lib.hid hin; clear hin
      go_wp2
      go_ret
      exact ⟨ret_bool (by rw [Hin.out]; rfl), hb0⟩

set_option maxHeartbeats 1000000 in
theorem fine_rank (S : Nat → Prop) (v : Value) (x : Blt) (c : Int) (w : World) (h : VBlt S w v x) (h3 : x.kind = 1) (hc10 : c ≤ 10) :
    Calls Tryz.prog 82 #[v, .int .i64 c] w (FineGives (inB c x.marks && onceB x.marks) w) := by
  obtain ⟨kind, marks⟩ := x
  obtain ⟨cc, d, rfl, hB⟩ := h
  obtain ⟨a, cap, rfl, rfl, hl, -, -, h⟩ := hB.open
  clear hB
  simp only at h3 h hl ⊢
  subst h3
  have hb0 : Below w.heap.size w (w.alloc (.cells #[.int .u8 1, .slice a marks.length cap] 41)) := (Below.refl _ _).alloc (Nat.le_refl _) _
  go_enter Tryz.func82, Tryz.ntmps82
  go_wp2
  go_loopw [13] (fun i wr => ∃ k : Nat, k ≤ marks.length ∧ i = .int .i64 k ∧ Hid (∀ j, (hj : j < marks.length) → j < k → 0 ≤ marks[j] ∧ marks[j] < c) ∧ wr = w.alloc (.cells #[.int .u8 1, .slice a marks.length cap] 41)) (fun i _ => marks.length - (intOf i).toNat)
  case atStart => exact ⟨0, Nat.zero_le _, rfl, Lib.hid (fun j _ h => by omega), rfl⟩
  case round =>
    obtain ⟨k, hk, rfl, hg, rfl⟩ := hrel
    by_cases hlt : k < marks.length
    · obtain ⟨b, off, c0, rfl, hS, hbw, hc, hx⟩ := RSl.at1 (h.same (.of_below hb0)) k hlt
      obtain ⟨rfl, -⟩ := hx.open
      by_cases hin : 0 ≤ marks[k] ∧ marks[k] < c
      · go_wp2_with (go_at_call 81; refine (within_t _ _ _ _ hin.1 hin.2).mono ?_; rintro e w1 ⟨rfl, rfl⟩)
        refine ⟨⟨k + 1, by omega, by go_num, Lib.hid (fun j hj hjk => ?_), trivial⟩, by simp [intOf]; omega⟩
        by_cases e : j = k
        · subst e; exact hin
        · exact hg.out j hj (by omega)
      · go_wp2_with (go_at_call 81; refine (within_f _ _ _ _ hin).mono ?_; rintro e w1 ⟨rfl, rfl⟩)
        go_ret
        exact ⟨ret_bool (by rw [inB_false k hlt hin]; rfl), hb0⟩
    · have hin : inB c marks = true := List.all_eq_true.2 (fun m hm => by obtain ⟨j, hj, rfl⟩ := List.getElem_of_mem hm; exact decide_eq_true (hg.out j hj (by omega)))
      have Hin := Lib.hid hin; clear hin
      go_wp2
      go_loopw [57] (fun i wr => ∃ k : Nat, k ≤ marks.length ∧ i = .int .i64 k ∧ Seen (w.heap.size + 1) wr (marks.take k) ∧ Hid (∀ k', (hk' : k' < marks.length) → k' < k → ∀ j, (hj : j < k') → marks[j] ≠ marks[k']) ∧ Below w.heap.size w wr ∧ w.heap.size + 1 < wr.heap.size) (fun i _ => marks.length - (intOf i).toNat)
      case atStart => exact ⟨0, Nat.zero_le _, rfl, Seen.start (by simpa using box_new (w.alloc (.cells #[.int .u8 1, .slice a marks.length cap] 41)) (.cells #[.bool false, .bool false, .bool false, .bool false, .bool false, .bool false, .bool false, .bool false, .bool false, .bool false] 159)), Lib.hid (fun _ _ h => by omega), hb0.alloc (by simp) _, by simp⟩
      case round =>
        obtain ⟨k, hk, rfl, hs, hone, hb, hz⟩ := hrel
        by_cases hlt : k < marks.length
        · obtain ⟨b, off, c0, rfl, hS, hbw, hc, hx⟩ := RSl.at1 (h.same (.of_below hb)) k hlt
          obtain ⟨rfl, -⟩ := hx.open
          obtain ⟨hm0, hm1⟩ := inB_get Hin.out k hlt
          obtain ⟨hs1, hs2⟩ := hs marks[k].toNat (by omega)
          rw [Int.toNat_of_nonneg hm0] at hs1
          have hm10 : marks[k] < 10 := by omega
          by_cases hmem : marks[k] ∈ marks.take k
          · have hd : decide (marks[k] ∈ marks.take k) = true := decide_eq_true hmem
            rw [hd] at hs1; clear hd
            have Hm := Lib.hid hmem; clear hmem
            go_wp2
            go_ret
            have hf : onceB marks = false := by
              obtain ⟨i, hi, he⟩ := List.getElem_of_mem Hm.out
              simp only [List.length_take] at hi
              rw [List.getElem_take] at he
              exact onceB_false i k (by omega) hlt he
            exact ⟨ret_bool (by rw [hf, Bool.and_false]), hb⟩
          · have hd : decide (marks[k] ∈ marks.take k) = false := decide_eq_false hmem
            rw [hd] at hs1; clear hd
            have Hm := Lib.hid hmem; clear hmem
            go_wp2
            refine ⟨⟨k + 1, by omega, by go_num, by rw [List.take_succ_eq_append_getElem hlt]; exact hs.set hm0 hm10, Lib.hid (fun k' hk' hlt' j hj => ?_), hb.setCell (p := ⟨w.heap.size + 1, marks[k].toNat, none⟩) (by simp) _, by simpa using hz⟩, by simp [intOf]; omega⟩
            by_cases e : k' = k
            · subst e
              exact fun he => Hm.out (List.mem_take_iff_getElem.2 ⟨j, by omega, he⟩)
            · exact hone.out k' hk' (by omega) j hj
        · go_wp2
          go_ret
          have ht : onceB marks = true := onceB_of (fun k' hk' j hj => hone.out k' hk' (by omega) j hj)
          exact ⟨ret_bool (by rw [Hin.out, ht]; rfl), hb⟩

set_option maxHeartbeats 1000000 in
theorem fine_mark (S : Nat → Prop) (v : Value) (x : Blt) (c : Int) (w : World) (h : VBlt S w v x) (h3 : x.kind = 2) (hc10 : c ≤ 10) :
    Calls Tryz.prog 82 #[v, .int .i64 c] w (FineGives (inB c x.marks && (upB x.marks && onceB x.marks)) w) := by
  obtain ⟨kind, marks⟩ := x
  obtain ⟨cc, d, rfl, hB⟩ := h
  obtain ⟨a, cap, rfl, rfl, hl, -, -, h⟩ := hB.open
  clear hB
  simp only at h3 h hl ⊢
  subst h3
  have hb0 : Below w.heap.size w (w.alloc (.cells #[.int .u8 2, .slice a marks.length cap] 41)) := (Below.refl _ _).alloc (Nat.le_refl _) _
  go_enter Tryz.func82, Tryz.ntmps82
  go_wp2
  go_loopw [13] (fun i wr => ∃ k : Nat, k ≤ marks.length ∧ i = .int .i64 k ∧ Hid (∀ j, (hj : j < marks.length) → j < k → 0 ≤ marks[j] ∧ marks[j] < c) ∧ wr = w.alloc (.cells #[.int .u8 2, .slice a marks.length cap] 41)) (fun i _ => marks.length - (intOf i).toNat)
  case atStart => exact ⟨0, Nat.zero_le _, rfl, Lib.hid (fun j _ h => by omega), rfl⟩
  case round =>
    obtain ⟨k, hk, rfl, hg, rfl⟩ := hrel
    by_cases hlt : k < marks.length
    · obtain ⟨b, off, c0, rfl, hS, hbw, hc, hx⟩ := RSl.at1 (h.same (.of_below hb0)) k hlt
      obtain ⟨rfl, -⟩ := hx.open
      by_cases hin : 0 ≤ marks[k] ∧ marks[k] < c
      · go_wp2_with (go_at_call 81; refine (within_t _ _ _ _ hin.1 hin.2).mono ?_; rintro e w1 ⟨rfl, rfl⟩)
        refine ⟨⟨k + 1, by omega, by go_num, Lib.hid (fun j hj hjk => ?_), trivial⟩, by simp [intOf]; omega⟩
        by_cases e : j = k
        · subst e; exact hin
        · exact hg.out j hj (by omega)
      · go_wp2_with (go_at_call 81; refine (within_f _ _ _ _ hin).mono ?_; rintro e w1 ⟨rfl, rfl⟩)
        go_ret
        exact ⟨ret_bool (by rw [inB_false k hlt hin]; rfl), hb0⟩
    · have hin : inB c marks = true := List.all_eq_true.2 (fun m hm => by obtain ⟨j, hj, rfl⟩ := List.getElem_of_mem hm; exact decide_eq_true (hg.out j hj (by omega)))
      have Hin := Lib.hid hin; clear hin
      have hgA : (w.alloc (.cells #[.int .u8 2, .slice a marks.length cap] 41)).heap[w.heap.size]? = some (.cells #[.int .u8 2, .slice a marks.length cap] 41 (0, 0)) := box_new _ _
      have hI := isSorted S (.slice a marks.length cap) marks (w.alloc (.cells #[.int .u8 2, .slice a marks.length cap] 41)) (h.same (.of_below hb0))
      by_cases hup : upB marks = false
      · rw [hup] at hI
        have HI := Lib.hid hI; clear hI
        have Hup := Lib.hid hup; clear hup
        go_wp2_with (go_at_call 98; refine HI.out.mono ?_; rintro e w1 ⟨rfl, hb1⟩)
        go_ret
        exact ⟨ret_bool (by rw [Hup.out]; simp), hb0.trans (hb1.mono (by simp))⟩
      rw [Bool.not_eq_false] at hup
      rw [hup] at hI
      have HI := Lib.hid hI; clear hI
      have Hup := Lib.hid hup; clear hup
      go_wp2_with (go_at_call 98; refine HI.out.mono ?_; rintro e w1 ⟨rfl, hb1⟩; obtain ⟨g1, hc1, hf1⟩ := own_box hb1 (by simp) hgA; have hz1 : w.heap.size < w1.heap.size := by have := hb1.size; simp at this; omega)
      have hb2 := hb0.trans (hb1.mono (by simp))
      go_loopw [57] (fun i wr => ∃ k : Nat, k ≤ marks.length ∧ i = .int .i64 k ∧ Seen (w1.heap.size) wr (marks.take k) ∧ Hid (∀ k', (hk' : k' < marks.length) → k' < k → ∀ j, (hj : j < k') → marks[j] ≠ marks[k']) ∧ Below w.heap.size w wr ∧ w1.heap.size < wr.heap.size) (fun i _ => marks.length - (intOf i).toNat)
      case atStart => exact ⟨0, Nat.zero_le _, rfl, Seen.start (box_new w1 (.cells #[.bool false, .bool false, .bool false, .bool false, .bool false, .bool false, .bool false, .bool false, .bool false, .bool false] 159)), Lib.hid (fun _ _ h => by omega), hb2.alloc (by omega) _, by simp⟩
      case round =>
        obtain ⟨k, hk, rfl, hs, hone, hb, hz⟩ := hrel
        by_cases hlt : k < marks.length
        · obtain ⟨b, off, c0, rfl, hS, hbw, hc, hx⟩ := RSl.at1 (h.same (.of_below hb)) k hlt
          obtain ⟨rfl, -⟩ := hx.open
          obtain ⟨hm0, hm1⟩ := inB_get Hin.out k hlt
          obtain ⟨hs1, hs2⟩ := hs marks[k].toNat (by omega)
          rw [Int.toNat_of_nonneg hm0] at hs1
          have hm10 : marks[k] < 10 := by omega
          by_cases hmem : marks[k] ∈ marks.take k
          · have hd : decide (marks[k] ∈ marks.take k) = true := decide_eq_true hmem
            rw [hd] at hs1; clear hd
            have Hm := Lib.hid hmem; clear hmem
            go_wp2
            go_ret
            have hf : onceB marks = false := by
              obtain ⟨i, hi, he⟩ := List.getElem_of_mem Hm.out
              simp only [List.length_take] at hi
              rw [List.getElem_take] at he
              exact onceB_false i k (by omega) hlt he
            exact ⟨ret_bool (by rw [hf, Bool.and_false, Bool.and_false]), hb⟩
          · have hd : decide (marks[k] ∈ marks.take k) = false := decide_eq_false hmem
            rw [hd] at hs1; clear hd
            have Hm := Lib.hid hmem; clear hmem
            go_wp2
            refine ⟨⟨k + 1, by omega, by go_num, by rw [List.take_succ_eq_append_getElem hlt]; exact hs.set hm0 hm10, Lib.hid (fun k' hk' hlt' j hj => ?_), hb.setCell (p := ⟨w1.heap.size, marks[k].toNat, none⟩) (by simp; omega) _, by simpa using hz⟩, by simp [intOf]; omega⟩
            by_cases e : k' = k
            · subst e
              exact fun he => Hm.out (List.mem_take_iff_getElem.2 ⟨j, by omega, he⟩)
            · exact hone.out k' hk' (by omega) j hj
        · go_wp2
          go_ret
          have ht : onceB marks = true := onceB_of (fun k' hk' j hj => hone.out k' hk' (by omega) j hj)
          exact ⟨ret_bool (by rw [Hin.out, Hup.out, ht]; rfl), hb⟩

end Go.Proofs.YtopdfijojjbjdaaGreat

/- The contracts of ballot.fine at every kind, of ballot.Check, and of the row's fits. -/
namespace Go.Proofs.YtopdfijojjbjdaaGreat
open Go Go.RowKit

set_option maxHeartbeats 1000000 in
theorem fine_else (S : Nat → Prop) (v : Value) (x : Blt) (c : Int) (w : World) (h : VBlt S w v x) (h1 : x.kind ≠ 1) (h2 : x.kind ≠ 2) (h3 : x.kind ≠ 3) :
    Calls Tryz.prog 82 #[v, .int .i64 c] w (FineGives false w) := by
  obtain ⟨kind, marks⟩ := x
  obtain ⟨cc, d, rfl, hB⟩ := h
  obtain ⟨a, cap, rfl, rfl, hl, -, -, h⟩ := hB.open
  clear hB
  simp only at h1 h2 h3 h hl ⊢
  have e1 : (kind == 1) = false := by simpa using h1
  have e2 : (kind == 2) = false := by simpa using h2
  have e3 : (kind == 3) = false := by simpa using h3
  have e4 : (kind != 3) = true := by simpa using h3
  clear h1 h2 h3
  have hb0 : Below w.heap.size w (w.alloc (.cells #[.int .u8 kind, .slice a marks.length cap] 41)) := (Below.refl _ _).alloc (Nat.le_refl _) _
  go_enter Tryz.func82, Tryz.ntmps82
  go_wp2
  go_loopw [13] (fun i wr => ∃ k : Nat, k ≤ marks.length ∧ i = .int .i64 k ∧ wr = w.alloc (.cells #[.int .u8 kind, .slice a marks.length cap] 41)) (fun i _ => marks.length - (intOf i).toNat)
  case atStart => exact ⟨0, Nat.zero_le _, rfl, rfl⟩
  case round =>
    obtain ⟨k, hk, rfl, rfl⟩ := hrel
    by_cases hlt : k < marks.length
    · obtain ⟨b, off, c0, rfl, hS, hbw, hc, hx⟩ := RSl.at1 (h.same (.of_below hb0)) k hlt
      obtain ⟨rfl, -⟩ := hx.open
      by_cases hin : 0 ≤ marks[k] ∧ marks[k] < c
      · go_wp2_with (go_at_call 81; refine (within_t _ _ _ _ hin.1 hin.2).mono ?_; rintro e w1 ⟨rfl, rfl⟩)
        exact ⟨⟨k + 1, by omega, by go_num, trivial⟩, by simp [intOf]; omega⟩
      · go_wp2_with (go_at_call 81; refine (within_f _ _ _ _ hin).mono ?_; rintro e w1 ⟨rfl, rfl⟩)
        go_ret
        exact ⟨rfl, hb0⟩
    · go_wp2
      go_ret
      exact ⟨rfl, hb0⟩

theorem fine_any (S : Nat → Prop) (v : Value) (x : Blt) (c : Int) (w : World) (h : VBlt S w v x) (hc : c ≤ 10) :
    Calls Tryz.prog 82 #[v, .int .i64 c] w (FineGives (fineB x c) w) := by
  unfold fineB
  by_cases h3 : x.kind = 3
  · rw [if_pos h3]; exact fine_score S v x c w h h3
  by_cases h2 : x.kind = 2
  · rw [if_neg h3, if_pos h2]; exact fine_mark S v x c w h h2 hc
  by_cases h1 : x.kind = 1
  · rw [if_neg h3, if_neg h2, if_pos h1]; exact fine_rank S v x c w h h1 hc
  · rw [if_neg h3, if_neg h2, if_neg h1]; exact fine_else S v x c w h h1 h2 h3

/-- ballot.Check's error. -/
def checkB (x : Blt) (c : Int) : Int := if 1 ≤ c ∧ c < 11 then (if fineB x c then 0 else 8) else 2

set_option maxHeartbeats 400000 in
theorem ballotCheck (S : Nat → Prop) (v : Value) (x : Blt) (c : Int) (w : World) (h : VBlt S w v x) :
    Calls Tryz.prog 56 #[v, .int .i64 c] w fun e w' => e = .returned (.int .i64 (checkB x c)) ∧ Below w.heap.size w w' := by
  have h0 := h
  obtain ⟨cc, d, rfl, hB⟩ := h
  obtain ⟨a, cap, rfl, rfl, hl, -, -, -⟩ := hB.open
  have hb0 : Below w.heap.size w (w.alloc (.cells #[.int .u8 x.kind, .slice a x.marks.length cap] 41)) := (Below.refl _ _).alloc (Nat.le_refl _) _
  by_cases hin : 1 ≤ c ∧ c < 11
  · have hF := fine_any S _ x c _ (h0.same (.of_below hb0)) (by omega)
    have hr : checkB x c = if fineB x c then 0 else 8 := by simp [checkB, hin]
    cases hf : fineB x c
    · rw [hf] at hF hr
      simp only [Bool.false_eq_true, if_false] at hr
      have HF := Lib.hid hF; have Hr := Lib.hid hr; clear hF hr hf
      go_enter Tryz.func56, Tryz.ntmps56
      go_wp2_with (first | (go_at_call 81; refine (within_t _ _ _ _ hin.1 hin.2).mono ?_; rintro e w1 ⟨rfl, rfl⟩) | (go_at_call 82; refine HF.out.mono ?_; rintro e w1 ⟨rfl, hb1⟩))
      go_ret
      exact ⟨ret_int Hr.out.symm, hb0.trans (hb1.mono (by simp))⟩
    · rw [hf] at hF hr
      simp only [if_true] at hr
      have HF := Lib.hid hF; have Hr := Lib.hid hr; clear hF hr hf
      go_enter Tryz.func56, Tryz.ntmps56
      go_wp2_with (first | (go_at_call 81; refine (within_t _ _ _ _ hin.1 hin.2).mono ?_; rintro e w1 ⟨rfl, rfl⟩) | (go_at_call 82; refine HF.out.mono ?_; rintro e w1 ⟨rfl, hb1⟩))
      go_ret
      exact ⟨ret_int Hr.out.symm, hb0.trans (hb1.mono (by simp))⟩
  · go_enter Tryz.func56, Tryz.ntmps56
    go_wp2_with (go_at_call 81; refine (within_f _ _ _ _ hin).mono ?_; rintro e w1 ⟨rfl, rfl⟩)
    go_ret
    exact ⟨ret_int (by simp only [checkB, if_neg hin]), hb0⟩
end Go.Proofs.YtopdfijojjbjdaaGreat

/- The contracts on names: record.named, the reference's Name. -/
namespace Go.Proofs.YtopdfijojjbjdaaGreat
open Go Go.RowKit

def goodByte (b : UInt8) : Bool := decide (33 ≤ b.toNat) && decide (b.toNat ≤ 126)
/-- A name: 1 to 40 bytes, each from 33 to 126. -/
def nameB (s : ByteArray) : Bool := decide (1 ≤ s.size) && (decide (s.size ≤ 40) && (List.range s.size).all fun i => goodByte (s.get! i))
def badRune (r : Nat) : Bool := decide (r < 33) || decide (126 < r)

theorem decode_low (s : ByteArray) (i : Nat) (h : (s.get! i).toNat < 128) : Utf8.decode s i = ((s.get! i).toNat, 1) := by
  simp only [Utf8.decode, Nat.add_zero, if_pos h]
theorem decode_high (s : ByteArray) (i : Nat) (h : ¬ (s.get! i).toNat < 128) : 128 ≤ (Utf8.decode s i).1 := by
  simp only [Utf8.decode, Nat.add_zero, if_neg h, Utf8.runeError]
  repeat' split
  all_goals first | (simp at *; omega) | simp
theorem idx_none (s : ByteArray) : ∀ f pos, s.size ≤ pos + f → (∀ i, pos ≤ i → i < s.size → goodByte (s.get! i) = true) → Lib.idxFuncFrom badRune true s f pos = -1
  | 0, pos, h, _ => rfl
  | f + 1, pos, h, hg => by
    by_cases hp : pos < s.size
    · have hb := hg pos (Nat.le_refl _) hp
      simp only [goodByte, Bool.and_eq_true, decide_eq_true_eq] at hb
      have hd := decode_low s pos (by omega)
      have hbad : badRune (s.get! pos).toNat = false := by simp [badRune]; omega
      simp only [Lib.idxFuncFrom, hp, if_true, hd, hbad, Bool.false_eq_true, if_false]
      exact idx_none s f (pos + 1) (by omega) (fun i h1 h2 => hg i (by omega) h2)
    · exact Lib.idxFuncFrom_end _ _ _ _ _ hp
theorem idx_some (s : ByteArray) : ∀ f pos, s.size ≤ pos + f → ∀ i, pos ≤ i → i < s.size → goodByte (s.get! i) = false → (∀ k, pos ≤ k → k < i → goodByte (s.get! k) = true) → 0 ≤ Lib.idxFuncFrom badRune true s f pos
  | 0, pos, h, i, h1, h2, _, _ => by omega
  | f + 1, pos, h, i, h1, h2, hi, hg => by
    have hp : pos < s.size := by omega
    by_cases e : i = pos
    · subst e
      have hbad : badRune (Utf8.decode s i).1 = true := by
        by_cases hl : (s.get! i).toNat < 128
        · rw [decode_low s i hl]
          simp only [goodByte, Bool.and_eq_false_iff, decide_eq_false_iff_not] at hi
          simp [badRune]; omega
        · have := decode_high s i hl
          simp [badRune]; omega
      simp only [Lib.idxFuncFrom, hp, if_true, hbad]
      omega
    · have hb := hg pos (Nat.le_refl _) (by omega)
      simp only [goodByte, Bool.and_eq_true, decide_eq_true_eq] at hb
      have hd := decode_low s pos (by omega)
      have hbad : badRune (s.get! pos).toNat = false := by simp [badRune]; omega
      simp only [Lib.idxFuncFrom, hp, if_true, hd, hbad, Bool.false_eq_true, if_false]
      exact idx_some s f (pos + 1) (by omega) i (by omega) h2 hi (fun k h3 h4 => hg k (by omega) h4)
theorem least_bad (p : Nat → Bool) : ∀ n, (List.range n).all p = false → ∃ i, i < n ∧ p i = false ∧ ∀ k, k < i → p k = true
  | 0, h => by simp at h
  | n + 1, h => by
    rw [List.range_succ, List.all_append] at h
    cases hn : (List.range n).all p
    · obtain ⟨i, h1, h2, h3⟩ := least_bad p n hn
      exact ⟨i, by omega, h2, h3⟩
    · rw [hn] at h
      refine ⟨n, by omega, by simpa using h, fun k hk => List.all_eq_true.1 hn k (List.mem_range.2 hk)⟩
theorem idx_name (s : ByteArray) : decide (0 ≤ Lib.idxFunc badRune true s) = !((List.range s.size).all fun i => goodByte (s.get! i)) := by
  cases h : (List.range s.size).all fun i => goodByte (s.get! i)
  · obtain ⟨i, h1, h2, h3⟩ := least_bad (fun i => goodByte (s.get! i)) s.size h
    exact decide_eq_true (idx_some s s.size 0 (by omega) i (by omega) h1 h2 (fun k _ hk => h3 k hk))
  · have : Lib.idxFunc badRune true s = -1 := idx_none s s.size 0 (by omega) (fun i _ h2 => List.all_eq_true.1 h i (List.mem_range.2 h2))
    rw [this]; rfl

set_option maxHeartbeats 400000 in
theorem bad_pred (w : World) : PredAt Tryz.prog 95 #[] encR badRune w := by
  intro W r _
  unfold FnGives
  by_cases h1 : r < 33
  · have hb : badRune r = true := by simp [badRune, h1]
    have Hb := Lib.hid hb; clear hb
    have h1' : (r : Int) < 33 := by omega
    go_enter Tryz.func95, Tryz.ntmps95
    go_wp2
    go_ret
    exact ⟨ret_bool Hb.out.symm, 0, rfl⟩
  · by_cases h2 : 126 < r
    · have hb : badRune r = true := by simp [badRune, h2]
      have Hb := Lib.hid hb; clear hb
      have h1' : ¬ (r : Int) < 33 := by omega
      have h2' : (126 : Int) < r := by omega
      go_enter Tryz.func95, Tryz.ntmps95
      go_wp2
      go_ret
      exact ⟨ret_bool Hb.out.symm, 0, rfl⟩
    · have hb : badRune r = false := by rw [badRune, decide_eq_false h1, decide_eq_false h2]; rfl
      have Hb := Lib.hid hb; clear hb
      have h1' : ¬ (r : Int) < 33 := by omega
      have h2' : ¬ (126 : Int) < r := by omega
      go_enter Tryz.func95, Tryz.ntmps95
      go_wp2
      go_ret
      exact ⟨ret_bool (by rw [Hb.out]), 0, rfl⟩

set_option maxHeartbeats 400000 in
theorem named (s : ByteArray) (w : World) (hs : s.size ≤ 140737488355328) :
    Calls Tryz.prog 72 #[.string s] w fun e w' => e = .returned (.bool (nameB s)) ∧ Below w.heap.size w w' := by
  have hC := fun W => Tryz.strings_ContainsFunc 95 #[] (enters_of Tryz.func95 (by kernel_rfl) rfl) badRune s W (bad_pred W)
  have HC := Lib.hid hC; clear hC
  go_enter Tryz.func72, Tryz.ntmps72
  go_wp2_with (go_at_call 87; refine (HC.out _).mono ?_; rintro e w1 ⟨rfl, hb1⟩)
  · have h0 : s.toList = [] := by assumption
    rw [ByteArray.toList_eq] at h0
    have h1 : s.size = 0 := by have := congrArg List.length h0; simpa using this
    go_ret
    exact ⟨ret_bool (by simp [nameB, h1]), Below.refl _ _⟩
  · have h0 : ¬ s.toList = [] := by assumption
    have h2 : (s.size : Int) ≤ 40 := by assumption
    have h1 : 1 ≤ s.size := by
      rcases Nat.eq_zero_or_pos s.size with h | h
      · rw [ByteArray.toList_eq] at h0
        exact absurd (List.eq_nil_of_length_eq_zero (by simpa using h)) h0
      · exact h
    have h3 : s.size ≤ 40 := by omega
    go_ret
    refine ⟨ret_bool ?_, hb1⟩
    rw [idx_name, Bool.not_not, nameB, decide_eq_true h1, decide_eq_true h3]
    have : s.toList.isEmpty = false := by simpa using h0
    simp [this]
  · have h2 : 40 < (s.size : Int) := by assumption
    go_ret
    have h3 : ¬ s.size ≤ 40 := by omega
    exact ⟨ret_bool (by simp [nameB, h3]), Below.refl _ _⟩

end Go.Proofs.YtopdfijojjbjdaaGreat

/- The contracts of the row's fits, of the closure of may, and of slices.IndexFunc and ContainsFunc at ballots and batches. -/
namespace Go.Proofs.YtopdfijojjbjdaaGreat
open Go Go.RowKit Go.Shelf

/-- Valid among c candidates and of a kind: 'fits'. -/
def fitsB (x : Blt) (c kind : Int) : Bool := decide (x.kind = kind) && decide (checkB x c = 0)

set_option maxHeartbeats 400000 in
theorem fits (S : Nat → Prop) (c0 c1 v : Value) (x : Blt) (c kind : Int) (w : World) (h : VBlt S w v x) :
    Calls Tryz.prog 75 #[.agg #[c0, c1, .int .i64 c, .int .u8 kind], v] w fun e w' => e = .returned (.bool (fitsB x c kind)) ∧ Below w.heap.size w w' := by
  have h0 := h
  obtain ⟨cc, d, rfl, hB⟩ := h
  obtain ⟨a, cap, rfl, rfl, hl, -, -, -⟩ := hB.open
  have hb0 : Below w.heap.size w ((w.alloc (.cells #[c0, c1, .int .i64 c, .int .u8 kind] 114)).alloc (.cells #[.int .u8 x.kind, .slice a x.marks.length cap] 41)) := ((Below.refl _ _).alloc (Nat.le_refl _) _).alloc (by simp) _
  have hF := ballotCheck S _ x c _ (h0.same (.of_below hb0))
  have HF := Lib.hid hF; clear hF
  by_cases hk : x.kind = kind
  · have hk' : (x.kind == kind) = true := by simpa using hk
    have Hk := Lib.hid hk; clear hk
    go_enter Tryz.func75, Tryz.ntmps75
    go_wp2_with (go_at_call 56; refine HF.out.mono ?_; rintro e w1 ⟨rfl, hb1⟩)
    go_ret
    exact ⟨ret_bool (by rw [fitsB, decide_eq_true Hk.out, Bool.true_and]; rfl), hb0.trans (hb1.mono (by simp; omega))⟩
  · have hk' : (x.kind == kind) = false := by simpa using hk
    have Hk := Lib.hid hk; clear hk
    go_enter Tryz.func75, Tryz.ntmps75
    go_wp2_with (go_at_call 56; refine HF.out.mono ?_; rintro e w1 ⟨rfl, hb1⟩)
    go_ret
    exact ⟨ret_bool (by rw [fitsB, decide_eq_false Hk.out, Bool.false_and]), hb0⟩

/-- The place of the first of which p holds, or -1. -/
def idxB {α : Type} (p : α → Bool) : List α → Int
  | [] => -1
  | x :: l => if p x then 0 else (if idxB p l < 0 then -1 else idxB p l + 1)

theorem idxB_ge {α : Type} (p : α → Bool) : ∀ l : List α, -1 ≤ idxB p l
  | [] => by simp [idxB]
  | x :: l => by have := idxB_ge p l; simp only [idxB]; repeat' split <;> omega
theorem idxB_at {α : Type} {p : α → Bool} : ∀ {l : List α} {k : Nat} (hk : k < l.length), (l.take k).any p = false → p l[k] = true → idxB p l = k
  | [], _, hk, _, _ => by simp at hk
  | x :: l, 0, _, _, hp => by simp only [List.getElem_cons_zero] at hp; simp [idxB, hp]
  | x :: l, k + 1, hk, h, hp => by
    simp only [List.take_succ_cons, List.any_cons, Bool.or_eq_false_iff] at h
    have := idxB_at (l := l) (k := k) (by simpa using hk) h.2 (by simpa using hp)
    simp only [idxB, h.1, this, Bool.false_eq_true, if_false]
    rw [if_neg (by omega)]
    omega
theorem idxB_none {α : Type} {p : α → Bool} : ∀ {l : List α}, l.any p = false → idxB p l = -1
  | [], _ => rfl
  | x :: l, h => by
    simp only [List.any_cons, Bool.or_eq_false_iff] at h
    simp [idxB, h.1, idxB_none h.2]
theorem idxB_iff {α : Type} (p : α → Bool) : ∀ l : List α, 0 ≤ idxB p l ↔ l.any p = true
  | [] => by simp [idxB]
  | x :: l => by
    have h1 := idxB_iff p l
    have h2 := idxB_ge p l
    unfold idxB
    by_cases hp : p x = true
    · simp [hp]
    · rw [if_neg hp, List.any_cons]
      rw [Bool.not_eq_true] at hp
      rw [hp, Bool.false_or, ← h1]
      split <;> omega
theorem idxB_any {α : Type} (p : α → Bool) (l : List α) : decide (0 ≤ idxB p l) = l.any p := by
  rw [Bool.eq_iff_iff, decide_eq_true_iff]; exact idxB_iff p l

set_option maxHeartbeats 400000 in
theorem indexBlt (S : Nat → Prop) (v : Value) (xs : List Blt) (w : World) (h : RBlts S w v xs) (g : Nat) (lb : Array Value) (eg : ∀ args w, (callFunc g args).run Tryz.prog w = .ok (.enter g args) w) (p : Blt → Bool)
    (hp : ∀ W x c d, Below w.heap.size w W → dBlt S W [c, d] x → Calls Tryz.prog g (#[.agg #[c, d]] ++ lb) W (fun e w' => e = .returned (.bool (p x)) ∧ Below W.heap.size W w')) :
    Calls Tryz.prog 96 #[v, .func (.func g) #[] lb] w fun e w' => e = .returned (.int .i64 (idxB p xs)) ∧ Below w.heap.size w w' := by
  obtain ⟨a, cap, rfl, h1, h2⟩ := RSl.shape h
  have HP := Lib.hid hp; clear hp
  go_enter Tryz.func96, Tryz.ntmps96
  go_wp2
  go_loopw [8] (fun i wr => ∃ k : Nat, k ≤ xs.length ∧ i = .int .i64 k ∧ Hid ((xs.take k).any p = false) ∧ Below w.heap.size w wr) (fun i _ => xs.length - (intOf i).toNat)
  case atStart => exact ⟨0, Nat.zero_le _, rfl, Lib.hid rfl, Below.refl _ _⟩
  case round =>
    obtain ⟨k, hk, rfl, hg, hb⟩ := hrel
    by_cases hlt : k < xs.length
    · obtain ⟨b, off, c, d, rfl, hS, hbw, hc, hd, hx⟩ := RSl.at2 (h.same (.of_below hb)) k hlt
      have hP := HP.out wr xs[k] c d hb hx
      cases hpk : p xs[k]
      · rw [hpk] at hP
        have HPk := Lib.hid hP; have Hpk := Lib.hid hpk; clear hP hpk
        go_wp2_with (go_at_fn g; refine HPk.out.mono ?_; rintro e w1 ⟨rfl, hb1⟩)
        exact ⟨⟨k + 1, by omega, by go_num, Lib.hid (by rw [any_take_succ _ _ _ hlt, hg.out, Hpk.out]; rfl), hb.trans (hb1.mono hb.size)⟩, by simp [intOf]; omega⟩
      · rw [hpk] at hP
        have HPk := Lib.hid hP; have Hpk := Lib.hid hpk; clear hP hpk
        go_wp2_with (go_at_fn g; refine HPk.out.mono ?_; rintro e w1 ⟨rfl, hb1⟩)
        go_ret
        exact ⟨ret_int (idxB_at hlt hg.out Hpk.out).symm, hb.trans (hb1.mono hb.size)⟩
    · go_wp2
      go_ret
      rw [List.take_of_length_le (by omega)] at hg
      exact ⟨ret_int (idxB_none hg.out).symm, hb⟩
set_option maxHeartbeats 400000 in
theorem containsBlt (S : Nat → Prop) (v : Value) (xs : List Blt) (w : World) (h : RBlts S w v xs) (g : Nat) (lb : Array Value) (eg : ∀ args w, (callFunc g args).run Tryz.prog w = .ok (.enter g args) w) (p : Blt → Bool)
    (hp : ∀ W x c d, Below w.heap.size w W → dBlt S W [c, d] x → Calls Tryz.prog g (#[.agg #[c, d]] ++ lb) W (fun e w' => e = .returned (.bool (p x)) ∧ Below W.heap.size W w')) :
    Calls Tryz.prog 73 #[v, .func (.func g) #[] lb] w fun e w' => e = .returned (.bool (xs.any p)) ∧ Below w.heap.size w w' := by
  have hI := indexBlt S v xs w h g lb eg p hp
  obtain ⟨a, cap, rfl, h1, h2⟩ := RSl.shape h
  have HI := Lib.hid hI; clear hI hp
  rw [← idxB_any]
  obtain ⟨I, hIx⟩ : ∃ I, idxB p xs = I := ⟨_, rfl⟩
  rw [hIx] at HI ⊢
  go_enter Tryz.func73, Tryz.ntmps73
  go_wp2_with (go_at_call 96; refine HI.out.mono ?_; rintro e w1 ⟨rfl, hb1⟩)
  go_ret
  exact ⟨rfl, hb1⟩
set_option maxHeartbeats 400000 in
theorem indexBtc (S : Nat → Prop) (v : Value) (xs : List Btc) (w : World) (h : RBtcs S w v xs) (g : Nat) (lb : Array Value) (eg : ∀ args w, (callFunc g args).run Tryz.prog w = .ok (.enter g args) w) (p : Btc → Bool)
    (hp : ∀ W x c d, Below w.heap.size w W → dBtc S W [c, d] x → Calls Tryz.prog g (#[.agg #[c, d]] ++ lb) W (fun e w' => e = .returned (.bool (p x)) ∧ Below W.heap.size W w')) :
    Calls Tryz.prog 71 #[v, .func (.func g) #[] lb] w fun e w' => e = .returned (.int .i64 (idxB p xs)) ∧ Below w.heap.size w w' := by
  obtain ⟨a, cap, rfl, h1, h2⟩ := RSl.shape h
  have HP := Lib.hid hp; clear hp
  go_enter Tryz.func71, Tryz.ntmps71
  go_wp2
  go_loopw [8] (fun i wr => ∃ k : Nat, k ≤ xs.length ∧ i = .int .i64 k ∧ Hid ((xs.take k).any p = false) ∧ Below w.heap.size w wr) (fun i _ => xs.length - (intOf i).toNat)
  case atStart => exact ⟨0, Nat.zero_le _, rfl, Lib.hid rfl, Below.refl _ _⟩
  case round =>
    obtain ⟨k, hk, rfl, hg, hb⟩ := hrel
    by_cases hlt : k < xs.length
    · obtain ⟨b, off, c, d, rfl, hS, hbw, hc, hd, hx⟩ := RSl.at2 (h.same (.of_below hb)) k hlt
      have hP := HP.out wr xs[k] c d hb hx
      cases hpk : p xs[k]
      · rw [hpk] at hP
        have HPk := Lib.hid hP; have Hpk := Lib.hid hpk; clear hP hpk
        go_wp2_with (go_at_fn g; refine HPk.out.mono ?_; rintro e w1 ⟨rfl, hb1⟩)
        exact ⟨⟨k + 1, by omega, by go_num, Lib.hid (by rw [any_take_succ _ _ _ hlt, hg.out, Hpk.out]; rfl), hb.trans (hb1.mono hb.size)⟩, by simp [intOf]; omega⟩
      · rw [hpk] at hP
        have HPk := Lib.hid hP; have Hpk := Lib.hid hpk; clear hP hpk
        go_wp2_with (go_at_fn g; refine HPk.out.mono ?_; rintro e w1 ⟨rfl, hb1⟩)
        go_ret
        exact ⟨ret_int (idxB_at hlt hg.out Hpk.out).symm, hb.trans (hb1.mono hb.size)⟩
    · go_wp2
      go_ret
      rw [List.take_of_length_le (by omega)] at hg
      exact ⟨ret_int (idxB_none hg.out).symm, hb⟩
set_option maxHeartbeats 400000 in
theorem containsBtc (S : Nat → Prop) (v : Value) (xs : List Btc) (w : World) (h : RBtcs S w v xs) (g : Nat) (lb : Array Value) (eg : ∀ args w, (callFunc g args).run Tryz.prog w = .ok (.enter g args) w) (p : Btc → Bool)
    (hp : ∀ W x c d, Below w.heap.size w W → dBtc S W [c, d] x → Calls Tryz.prog g (#[.agg #[c, d]] ++ lb) W (fun e w' => e = .returned (.bool (p x)) ∧ Below W.heap.size W w')) :
    Calls Tryz.prog 49 #[v, .func (.func g) #[] lb] w fun e w' => e = .returned (.bool (xs.any p)) ∧ Below w.heap.size w w' := by
  have hI := indexBtc S v xs w h g lb eg p hp
  obtain ⟨a, cap, rfl, h1, h2⟩ := RSl.shape h
  have HI := Lib.hid hI; clear hI hp
  rw [← idxB_any]
  obtain ⟨I, hIx⟩ : ∃ I, idxB p xs = I := ⟨_, rfl⟩
  rw [hIx] at HI ⊢
  go_enter Tryz.func49, Tryz.ntmps49
  go_wp2_with (go_at_call 71; refine HI.out.mono ?_; rintro e w1 ⟨rfl, hb1⟩)
  go_ret
  exact ⟨rfl, hb1⟩
end Go.Proofs.YtopdfijojjbjdaaGreat

/- The contracts of the row's may, of record.place and of record.Check. -/
namespace Go.Proofs.YtopdfijojjbjdaaGreat
open Go Go.RowKit Go.Shelf

set_option maxHeartbeats 400000 in
theorem may1 (S : Nat → Prop) (B : Nat) (c0 c1 v : Value) (x : Blt) (c kind : Int) (w : World) (h : VBlt S w v x) (hB : w.heap[B]? = some (.cells #[c0, c1, .int .i64 c, .int .u8 kind] 114 (0, 0))) :
    Calls Tryz.prog 74 #[v, .pointer (some ⟨B, 0, none⟩)] w fun e w' => e = .returned (.bool (!fitsB x c kind)) ∧ Below w.heap.size w w' := by
  have h0 := h
  obtain ⟨cc, d, rfl, hB'⟩ := h
  obtain ⟨a, cap, rfl, rfl, hl, -, -, -⟩ := hB'.open
  have hb0 : Below w.heap.size w (w.alloc (.cells #[.int .u8 x.kind, .slice a x.marks.length cap] 41)) := (Below.refl _ _).alloc (Nat.le_refl _) _
  have hF := fits S c0 c1 _ x c kind _ (h0.same (.of_below hb0))
  have HF := Lib.hid hF; clear hF
  obtain ⟨g1, hc1, hf1⟩ := own_box hb0 (size_of_box hB) hB
  have hB1 := size_of_box hB
  obtain ⟨g0, hc0, hf0⟩ := own_box (Below.refl w.heap.size w) (size_of_box hB) hB
  clear g0 g1 hB hc1
  go_enter Tryz.func74, Tryz.ntmps74
  go_wp2_with (go_at_call 75; refine HF.out.mono ?_; rintro e w1 ⟨rfl, hb1⟩)
  go_ret
  exact ⟨rfl, hb0.trans (hb1.mono (by simp))⟩

/-- A valid batch: 'may'. -/
def mayB (x : Btc) (c kind : Int) : Bool := nameB x.name && !x.blts.any fun b => !fitsB b c kind

set_option maxHeartbeats 400000 in
theorem may (S : Nat → Prop) (c0 c1 : Value) (x : Btc) (c kind : Int) (w : World) (h : dBtc S w [c0, c1] x) :
    Calls Tryz.prog 51 #[.agg #[c0, c1, .int .i64 c, .int .u8 kind]] w fun e w' => e = .returned (.bool (mayB x c kind)) ∧ Below w.heap.size w w' := by
  obtain ⟨a, cap, rfl, rfl, hl, hn, hI⟩ := h.open
  have hb0 : Below w.heap.size w (w.alloc (.cells #[.string x.name, .slice a x.blts.length cap, .int .i64 c, .int .u8 kind] 114)) := (Below.refl _ _).alloc (Nat.le_refl _) _
  have hbox : (w.alloc (.cells #[.string x.name, .slice a x.blts.length cap, .int .i64 c, .int .u8 kind] 114)).heap[w.heap.size]? = some (.cells #[.string x.name, .slice a x.blts.length cap, .int .i64 c, .int .u8 kind] 114 (0, 0)) := box_new _ _
  have hN := named x.name (w.alloc (.cells #[.string x.name, .slice a x.blts.length cap, .int .i64 c, .int .u8 kind] 114)) hn
  have HN := Lib.hid hN; clear hN
  have hC : ∀ w1, Below (w.heap.size + 1) (w.alloc (.cells #[.string x.name, .slice a x.blts.length cap, .int .i64 c, .int .u8 kind] 114)) w1 →
      Calls Tryz.prog 73 #[.slice a x.blts.length cap, .func (.func 74) #[] #[.pointer (some ⟨w.heap.size, 0, none⟩)]] w1 fun e w' => e = .returned (.bool (x.blts.any fun b => !fitsB b c kind)) ∧ Below w1.heap.size w1 w' := by
    intro w1 hb1
    refine containsBlt S _ x.blts w1 (hI.same (.of_below (hb0.trans (hb1.mono (by omega))))) _ _ (enters_of Tryz.func74 (by kernel_rfl) rfl) _ ?_
    intro W y d0 d1 hW hy
    exact may1 S w.heap.size _ _ _ y c kind W ⟨d0, d1, rfl, hy⟩ (own_box (hb1.trans (hW.mono (by have := hb1.size; simpa using this))) (by omega) hbox).1
  have HC := Lib.hid hC; clear hC hI
  go_enter Tryz.func51, Tryz.ntmps51
  go_wp2_with (first | (go_at_call 72; refine HN.out.mono ?_; rintro e w1 ⟨rfl, hb1⟩; obtain ⟨g1, hc1, hf1⟩ := own_box hb1 (by simp) hbox; have hz1 : w.heap.size < w1.heap.size := by (have := hb1.size; simp at this; omega)) | (go_at_call 73; refine (HC.out _ (by simpa using hb1)).mono ?_; rintro e w2 ⟨rfl, hb2⟩))
  · have hn' : nameB x.name = true := by assumption
    go_ret
    exact ⟨ret_bool (by rw [mayB, hn', Bool.true_and]), hb0.trans ((hb1.trans (hb2.mono (by simpa using hb1.size))).mono (by simp))⟩
  · have hn' : nameB x.name = false := by rw [← Bool.not_eq_true]; assumption
    go_ret
    exact ⟨ret_bool (by rw [mayB, hn', Bool.false_and]), hb0.trans (hb1.mono (by simp))⟩
/-- Equal names. -/
def sameName (a b : ByteArray) : Bool := a.toList == b.toList

set_option maxHeartbeats 400000 in
theorem place1 (S : Nat → Prop) (B : Nat) (c d : Value) (x : Btc) (nm : ByteArray) (w : World) (h : dBtc S w [c, d] x) (hB : w.heap[B]? = some (.cells #[.string nm] 9 (0, 0))) :
    Calls Tryz.prog 76 #[.agg #[c, d], .pointer (some ⟨B, 0, none⟩)] w fun e w' => e = .returned (.bool (sameName x.name nm)) ∧ Below w.heap.size w w' := by
  obtain ⟨a, cap, rfl, rfl, hl, hn, hI⟩ := h.open
  obtain ⟨g0, hc0, hf0⟩ := own_box (Below.refl w.heap.size w) (size_of_box hB) hB
  have hB1 := size_of_box hB
  clear g0 hB
  go_enter Tryz.func76, Tryz.ntmps76
  go_wp2
  go_ret
  exact ⟨rfl, (Below.refl _ _).alloc (Nat.le_refl _) _⟩

set_option maxHeartbeats 400000 in
theorem place (S : Nat → Prop) (v : Value) (xs : List Btc) (nm : ByteArray) (w : World) (h : RBtcs S w v xs) :
    Calls Tryz.prog 52 #[v, .string nm] w fun e w' => e = .returned (.int .i64 (idxB (fun b => sameName b.name nm) xs)) ∧ Below w.heap.size w w' := by
  have hb0 : Below w.heap.size w (w.alloc (.cells #[.string nm] 9)) := (Below.refl _ _).alloc (Nat.le_refl _) _
  have hbox : (w.alloc (.cells #[.string nm] 9)).heap[w.heap.size]? = some (.cells #[.string nm] 9 (0, 0)) := box_new _ _
  have hI := indexBtc S v xs _ (h.same (.of_below hb0)) 76 #[.pointer (some ⟨w.heap.size, 0, none⟩)] (enters_of Tryz.func76 (by kernel_rfl) rfl) (fun b => sameName b.name nm)
    (fun W x c d hW hx => place1 S w.heap.size c d x nm W hx (own_box hW (by simp) hbox).1)
  have HI := Lib.hid hI; clear hI
  obtain ⟨a, cap, rfl, h1, h2⟩ := RSl.shape h
  obtain ⟨I, hIx⟩ : ∃ I, idxB (fun b : Btc => sameName b.name nm) xs = I := ⟨_, rfl⟩
  rw [hIx] at HI ⊢
  go_enter Tryz.func52, Tryz.ntmps52
  go_wp2_with (go_at_call 71; refine HI.out.mono ?_; rintro e w1 ⟨rfl, hb1⟩)
  go_ret
  exact ⟨rfl, hb0.trans (hb1.mono (by simp))⟩

set_option maxHeartbeats 400000 in
theorem check1 (S : Nat → Prop) (c d : Value) (x : Btc) (w : World) (h : dBtc S w [c, d] x) :
    Calls Tryz.prog 50 (#[.agg #[c, d]] ++ #[]) w fun e w' => e = .returned (.bool (decide (64 < x.blts.length))) ∧ Below w.heap.size w w' := by
  obtain ⟨a, cap, rfl, rfl, hl, hn, hI⟩ := h.open
  simp only [Array.append_empty]
  go_enter Tryz.func50, Tryz.ntmps50
  go_wp2
  go_ret
  exact ⟨ret_bool (decide_eq_decide.2 (by omega)), (Below.refl _ _).alloc (Nat.le_refl _) _⟩

/-- Batch i is valid, and no earlier one has its name. -/
def okAt (l : List Btc) (c kind : Int) (i : Nat) : Bool :=
  match l[i]? with
  | some b => mayB b c kind && !(l.take i).any fun y => sameName y.name b.name
  | none => true
/-- record.Check's error. -/
def recCheck (l : List Btc) (c kind : Int) : Int :=
  if 1 ≤ c ∧ c ≤ 10 ∧ 1 ≤ kind ∧ kind ≤ 3 then
    if 16 < l.length ∨ l.any (fun b => decide (64 < b.blts.length)) = true then 4
    else if (List.range l.length).all (okAt l c kind) then 0 else 8
  else 2

set_option maxHeartbeats 1000000 in
theorem recordCheck_arg (v : Value) (_ : List Btc) (c kind : Int) (w : World) (hbad : ¬ (1 ≤ c ∧ c ≤ 10 ∧ 1 ≤ kind ∧ kind ≤ 3)) :
    Calls Tryz.prog 26 #[v, .int .i64 c, .int .u8 kind] w fun e w' => e = .returned (.int .i64 2) ∧ Below w.heap.size w w' := by
  by_cases h1 : c < 1
  · clear hbad
    go_enter Tryz.func26, Tryz.ntmps26
    go_wp2
    go_ret
    exact ⟨rfl, Below.refl _ _⟩
  by_cases h2 : 10 < c
  · clear hbad
    go_enter Tryz.func26, Tryz.ntmps26
    go_wp2
    go_ret
    exact ⟨rfl, Below.refl _ _⟩
  by_cases h3 : kind < 1
  · clear hbad
    go_enter Tryz.func26, Tryz.ntmps26
    go_wp2
    go_ret
    exact ⟨rfl, Below.refl _ _⟩
  have h4 : 3 < kind := by omega
  clear hbad
  go_enter Tryz.func26, Tryz.ntmps26
  go_wp2
  go_ret
  exact ⟨rfl, Below.refl _ _⟩

set_option maxHeartbeats 1000000 in
theorem recordCheck_rest (S : Nat → Prop) (v : Value) (l : List Btc) (c kind : Int) (w : World) (h : RBtcs S w v l) (hc1 : 1 ≤ c) (hc2 : c ≤ 10) (hk1 : 1 ≤ kind) (hk2 : kind ≤ 3) :
    Calls Tryz.prog 26 #[v, .int .i64 c, .int .u8 kind] w fun e w' => e = .returned (.int .i64 (recCheck l c kind)) ∧ Below w.heap.size w w' := by
  have hr : recCheck l c kind = if 16 < l.length ∨ l.any (fun b => decide (64 < b.blts.length)) = true then 4 else if (List.range l.length).all (okAt l c kind) then 0 else 8 := by
    rw [recCheck, if_pos ⟨hc1, hc2, hk1, hk2⟩]
  have hC := containsBtc S v l w h 50 #[] (enters_of Tryz.func50 (by kernel_rfl) rfl) (fun b => decide (64 < b.blts.length)) (fun W x c d hW hx => check1 S c d x W hx)
  obtain ⟨a, cap, rfl, h1, h2⟩ := RSl.shape h
  by_cases h16 : 16 < l.length
  · rw [if_pos (.inl h16)] at hr
    have Hr := Lib.hid hr; clear hr hC
    go_enter Tryz.func26, Tryz.ntmps26
    go_wp2
    go_ret
    exact ⟨ret_int Hr.out.symm, Below.refl _ _⟩
  cases h64 : l.any (fun b => decide (64 < b.blts.length))
  · rw [h64] at hC hr
    rw [if_neg (by simp; omega)] at hr
    have Hr := Lib.hid hr; have HC := Lib.hid hC; have H64 := Lib.hid h64; clear hr hC h64
    go_enter Tryz.func26, Tryz.ntmps26
    go_wp2_with (go_at_call 49; refine HC.out.mono ?_; rintro e w1 ⟨rfl, hb1⟩)
    go_loopw [32] (fun i wr => ∃ k : Nat, k ≤ l.length ∧ i = .int .i64 k ∧ Hid ((List.range k).all (okAt l c kind) = true) ∧ Below w.heap.size w wr) (fun i _ => l.length - (intOf i).toNat)
    case atStart => exact ⟨0, Nat.zero_le _, rfl, Lib.hid rfl, hb1⟩
    case round =>
      obtain ⟨k, hk, rfl, hg, hb⟩ := hrel
      by_cases hlt : k < l.length
      · obtain ⟨b, off, c0, d0, rfl, hS, hbw, hc, hd, hx⟩ := RSl.at2 (h.same (.of_below hb)) k hlt
        obtain ⟨a', cap', rfl, rfl, hl1, hl2, -⟩ := hx.open
        have hok : okAt l c kind k = (mayB l[k] c kind && !(l.take k).any fun y => sameName y.name l[k].name) := by simp [okAt, hlt]
        have hw1 : Below wr.heap.size wr (wr.alloc (.cells #[.string l[k].name, .slice a' l[k].blts.length cap'] 55)) := (Below.refl _ _).alloc (Nat.le_refl _) _
        have hbx := box_new wr (.cells #[.string l[k].name, .slice a' l[k].blts.length cap'] 55)
        go_wp2
        obtain ⟨W, hW⟩ : ∃ W, W = wr.alloc (.cells #[.string l[k].name, .slice a' l[k].blts.length cap'] 55) := ⟨_, rfl⟩
        rw [← hW] at hbx hw1 ⊢
        have hbW : Below w.heap.size w W := hb.trans (hw1.mono hb.size)
        have hM := fun p => may S _ _ l[k] c kind (ext W p) (dBtc.stable S _ _ _ _ (.of_below (hw1.trans ((below_ext W p).mono hw1.size))) hx)
        have hP := fun p => place S _ (l.take k) l[k].name (ext W p) (RSl.take (h.same (.of_below (hbW.trans ((below_ext W p).mono hbW.size)))) k hk)
        have e0 := fun p => cell_ext (w := W) (a := ⟨wr.heap.size, 0, none⟩) (v := .string l[k].name) (by simp [World.cell?, hbx]) p
        have e1 := fun p => cell_ext (w := W) (a := ⟨wr.heap.size, 1, none⟩) (v := .slice a' l[k].blts.length cap') (by simp [World.cell?, hbx]) p
        clear hW hc hd hbx
        have hal : okAt l c kind k = false → recCheck l c kind = 8 := fun hf => by
          rw [Hr.out, if_neg]
          intro ha
          have := List.all_eq_true.1 ha k (List.mem_range.2 hlt)
          rw [hf] at this; cases this
        have Hal := Lib.hid hal; clear hal
        cases hm : mayB l[k] c kind
        · rw [hm, Bool.false_and] at hok
          have HM := Lib.hid hM; have Hok := Lib.hid hok; clear hM hok
          rw [hm] at HM; clear hm hP
          refine wp_region_ext (by kernel_rfl) (by kernel_rfl) ?_
          repeat (go_big_quiet_step ((go_at_call 51; have hh := HM.out; exact calls_ext (v := .bool false) (hh _))))
          refine wpQuiet_nil ?_
          intro _ hw'; obtain ⟨p, rfl⟩ := hw'
          go_wp2
          go_ret
          exact ⟨ret_int (Hal.out Hok.out).symm, hbW.trans ((below_ext W p).mono hbW.size)⟩
        · rw [hm, Bool.true_and] at hok
          obtain ⟨I, hI⟩ : ∃ I, idxB (fun b : Btc => sameName b.name l[k].name) (l.take k) = I := ⟨_, rfl⟩
          rw [← idxB_any, hI] at hok
          have HM := Lib.hid hM; have HP := Lib.hid hP; have Hok := Lib.hid hok; clear hM hok hP
          rw [hm] at HM; rw [hI] at HP; clear hm hI
          refine wp_region_ext (by kernel_rfl) (by kernel_rfl) ?_
          repeat (go_big_quiet_step ((first | (go_at_call 51; have hh := HM.out; exact calls_ext (v := .bool true) (hh _)) | (go_at_call 52; have hh := HP.out; exact calls_ext (v := .int .i64 I) (hh _)))))
          refine wpQuiet_nil ?_
          intro _ hw'; obtain ⟨p, rfl⟩ := hw'
          go_wp2
          · have hI : 0 ≤ I := by assumption
            go_ret
            exact ⟨ret_int (Hal.out (by rw [Hok.out, decide_eq_true hI]; rfl)).symm, hbW.trans ((below_ext W p).mono hbW.size)⟩
          · have hI : I < 0 := by assumption
            exact ⟨⟨k + 1, by omega, by go_num, Lib.hid (by rw [List.range_succ, List.all_append, hg.out]; simp [Hok.out]; omega), hbW.trans ((below_ext W p).mono hbW.size)⟩, by simp [intOf]; omega⟩
      · go_wp2
        go_ret
        exact ⟨ret_int (by rw [Hr.out, if_pos]; obtain rfl : k = l.length := by omega
                           exact hg.out), hb⟩
  · rw [h64] at hC hr
    rw [if_pos (.inr rfl)] at hr
    have Hr := Lib.hid hr; have HC := Lib.hid hC; clear hr hC h64
    go_enter Tryz.func26, Tryz.ntmps26
    go_wp2_with (go_at_call 49; refine HC.out.mono ?_; rintro e w1 ⟨rfl, hb1⟩)
    go_ret
    exact ⟨ret_int Hr.out.symm, hb1⟩
theorem recordCheck (S : Nat → Prop) (v : Value) (l : List Btc) (c kind : Int) (w : World) (h : RBtcs S w v l) :
    Calls Tryz.prog 26 #[v, .int .i64 c, .int .u8 kind] w fun e w' => e = .returned (.int .i64 (recCheck l c kind)) ∧ Below w.heap.size w w' := by
  by_cases hb : 1 ≤ c ∧ c ≤ 10 ∧ 1 ≤ kind ∧ kind ≤ 3
  · exact recordCheck_rest S v l c kind w h hb.1 hb.2.1 hb.2.2.1 hb.2.2.2
  · have : recCheck l c kind = 2 := by rw [recCheck, if_neg hb]
    rw [this]
    exact recordCheck_arg v l c kind w hb
end Go.Proofs.YtopdfijojjbjdaaGreat

/- The contracts of the references' Great: whether batches are larger than the statements examine. -/
namespace Go.Proofs.YtopdfijojjbjdaaGreat
open Go Go.RowKit

def greatBlt (b : Blt) : Bool := decide (60 < b.marks.length)
def greatBtc (b : Btc) : Bool := decide (70 < b.blts.length) || decide (1000 < b.name.size) || b.blts.any greatBlt
def great (l : List Btc) : Bool := decide (20 < l.length) || l.any greatBtc

set_option maxHeartbeats 400000 in
theorem great08 (S : Nat → Prop) (v : Value) (x : Blt) (w : World) (h : VBlt S w v x) :
    Calls Tryz.prog 19 #[v] w fun e w' => e = .returned (.bool (greatBlt x)) ∧ Below w.heap.size w w' := by
  obtain ⟨c, d, rfl, h⟩ := h
  obtain ⟨a, cap, rfl, rfl, hl, _, _, h⟩ := h.open
  go_enter Tryz.func19, Tryz.ntmps19
  go_wp2
  go_ret
  exact ⟨ret_bool (by simp only [greatBlt]; exact decide_eq_decide.2 (by omega)), (Below.refl _ _).alloc (Nat.le_refl _) _⟩

set_option maxHeartbeats 1000000 in
theorem great26 (S : Nat → Prop) (v : Value) (l : List Btc) (w : World) (h : RBtcs S w v l) :
    Calls Tryz.prog 5 #[v] w fun e w' => e = .returned (.bool (great l)) ∧ Below w.heap.size w w' := by
  obtain ⟨a, cap, rfl, h1, h2⟩ := RSl.shape h
  by_cases h20 : 20 < l.length
  · go_enter Tryz.func5, Tryz.ntmps5
    go_wp2
    go_ret
    exact ⟨by simp [great, h20], Below.refl _ _⟩
  go_enter Tryz.func5, Tryz.ntmps5
  go_wp2
  go_loopw [3] (fun i wr => ∃ k : Nat, k ≤ l.length ∧ i = .int .i64 k ∧ (l.take k).any greatBtc = false ∧ Below w.heap.size w wr) (fun i _ => l.length - (intOf i).toNat)
  case atStart => exact ⟨0, Nat.zero_le _, rfl, by simp, Below.refl _ _⟩
  case round =>
    obtain ⟨k, hk, rfl, hg, hb⟩ := hrel
    have Hg := Lib.hid hg; clear hg
    by_cases hlt : k < l.length
    · obtain ⟨b, off, c, d, rfl, hS, hbw, hc, hd, hx⟩ := RSl.at2 (h.same (.of_below hb)) k hlt
      obtain ⟨a', cap', rfl, rfl, hl1, hl2, hx⟩ := hx.open
      have ht : (l.take (k + 1)).any greatBtc = greatBtc l[k] := by rw [any_take_succ _ _ _ hlt, Hg.out, Bool.false_or]
      have Ht := Lib.hid ht; clear ht
      by_cases c1 : 70 < l[k].blts.length
      · go_wp2
        go_ret
        exact ⟨ret_bool (by rw [great, any_of_get greatBtc l k hlt (by simp [greatBtc, c1])]; simp), hb⟩
      by_cases c2 : 1000 < l[k].name.size
      · go_wp2
        go_ret
        exact ⟨ret_bool (by rw [great, any_of_get greatBtc l k hlt (by simp [greatBtc, c2])]; simp), hb⟩
      go_wp2
      obtain ⟨w1, rfl⟩ : ∃ w1 : World, w1 = wr := ⟨_, rfl⟩
      go_loopw [4] (fun i wr' => ∃ j : Nat, j ≤ l[k].blts.length ∧ i = .int .i64 j ∧ Hid ((l[k].blts.take j).any greatBlt = false) ∧ Below w1.heap.size w1 wr') (fun i _ => l[k].blts.length - (intOf i).toNat)
      case atStart => exact ⟨0, Nat.zero_le _, rfl, Lib.hid (by simp), Below.refl _ _⟩
      case round =>
        obtain ⟨j, hj, rfl, hg', hb'⟩ := hrel
        have hc' := (Same.of_below (S := Any) hb').cell trivial hc
        have hd' := (Same.of_below (S := Any) hb').cell trivial hd
        by_cases hj' : j < l[k].blts.length
        · obtain ⟨b2, off2, c, d, rfl, hS2, hbw2, hc2, hd2, hx2⟩ := RSl.at2 (hx.same (.of_below hb')) j hj'
          go_wp2_with (go_at_call 19; refine (great08 S _ _ _ ⟨_, _, rfl, hx2⟩).mono ?_; rintro e w' ⟨rfl, hb3⟩)
          · have hgr : greatBlt l[k].blts[j] = true := by assumption
            go_ret
            exact ⟨ret_bool (by rw [great, any_of_get greatBtc l k hlt (by simp [greatBtc, any_of_get greatBlt _ j hj' hgr])]; simp), (hb.trans (hb'.mono hb.size)).trans (hb3.mono (hb.trans (hb'.mono hb.size)).size)⟩
          · have hgr : greatBlt l[k].blts[j] = false := by assumption
            exact ⟨⟨j + 1, by omega, by go_num, Lib.hid (by rw [any_take_succ _ _ _ hj', hg'.out, hgr]; rfl), hb'.trans (hb3.mono hb'.size)⟩, by simp [intOf]; omega⟩
        · go_wp2
          rw [List.take_of_length_le (by omega)] at hg'
          exact ⟨⟨k + 1, by omega, by go_num, by rw [Ht.out]; simp only [greatBtc, hg'.out, c1, c2]; rfl, hb.trans (hb'.mono hb.size)⟩, by simp [intOf]; omega⟩
    · go_wp2
      go_ret
      exact ⟨ret_bool (by rw [great]; rw [List.take_of_length_le (by omega)] at Hg; rw [Hg.out]; simp [h20]), hb⟩
end Go.Proofs.YtopdfijojjbjdaaGreat
