/- What is a valid ballot: plain definitions and lemmas; no program. -/
import Derived.Test.YtkjgddcjhikdgaaBase
namespace Go.Proofs.Ytkjgddcjhikdgaa

theorem all_take_succ {α : Type} (p : α → Bool) (l : List α) (k : Nat) (h : k < l.length) : (l.take (k + 1)).all p = ((l.take k).all p && p l[k]) := by
  rw [List.take_succ_eq_append_getElem h, List.all_append]
  simp
theorem any_take_succ {α : Type} (p : α → Bool) (l : List α) (k : Nat) (h : k < l.length) : (l.take (k + 1)).any p = ((l.take k).any p || p l[k]) := by
  rw [List.take_succ_eq_append_getElem h, List.any_append]
  simp
theorem any_of_get {α : Type} (p : α → Bool) (l : List α) (k : Nat) (h : k < l.length) (hp : p l[k] = true) : l.any p = true :=
  List.any_eq_true.2 ⟨l[k], List.getElem_mem h, hp⟩

/-- Ascending, neighbours compared. -/
def upB (l : List Int) : Bool := decide (l.Pairwise (· ≤ ·))
/-- No element twice. -/
def onceB (l : List Int) : Bool := decide l.Nodup
def inB (c : Int) (l : List Int) : Bool := l.all fun m => decide (0 ≤ m ∧ m < c)
def fineB (x : Blt) (c : Int) : Bool :=
  if x.kind = 3 then inB 11 x.marks && decide ((x.marks.length : Int) = c)
  else if x.kind = 2 then inB c x.marks && (upB x.marks && onceB x.marks)
  else if x.kind = 1 then inB c x.marks && onceB x.marks
  else false

theorem inB_get {c : Int} {l : List Int} (h : inB c l = true) (k : Nat) (hk : k < l.length) : 0 ≤ l[k] ∧ l[k] < c := by
  have := List.all_eq_true.1 h l[k] (List.getElem_mem hk)
  simpa using this
theorem inB_false {c : Int} {l : List Int} (k : Nat) (hk : k < l.length) (h : ¬ (0 ≤ l[k] ∧ l[k] < c)) : inB c l = false := by
  cases hb : inB c l
  · rfl
  · exact absurd (inB_get hb k hk) h
theorem onceB_get {l : List Int} (h : onceB l = true) (i k : Nat) (hik : i < k) (hk : k < l.length) : l[i] ≠ l[k] := by
  have := of_decide_eq_true h
  rw [List.nodup_iff_pairwise_ne, List.pairwise_iff_getElem] at this
  exact this i k (by omega) hk hik
theorem onceB_false {l : List Int} (i k : Nat) (hik : i < k) (hk : k < l.length) (h : l[i] = l[k]) : onceB l = false := by
  cases hb : onceB l
  · rfl
  · exact absurd h (onceB_get hb i k hik hk)
theorem onceB_of {l : List Int} (h : ∀ k, (hk : k < l.length) → ∀ i, (hi : i < k) → l[i] ≠ l[k]) : onceB l = true := by
  refine decide_eq_true ?_
  rw [List.nodup_iff_pairwise_ne, List.pairwise_iff_getElem]
  exact fun i j hi hj hij => h j hj i hij
theorem upB_get {l : List Int} (h : upB l = true) (i k : Nat) (hik : i < k) (hk : k < l.length) : l[i] ≤ l[k] := by
  have := of_decide_eq_true h
  rw [List.pairwise_iff_getElem] at this
  exact this i k (by omega) hk hik
theorem upB_false {l : List Int} (i : Nat) (h : i + 1 < l.length) (hlt : l[i + 1] < l[i]) : upB l = false := by
  cases hb : upB l
  · rfl
  · have := upB_get hb i (i + 1) (by omega) h
    omega
theorem up_far {l : List Int} (h : ∀ i, (h : i + 1 < l.length) → l[i] ≤ l[i + 1]) (i : Nat) : ∀ d, (hd : i + d < l.length) → l[i]'(by omega) ≤ l[i + d]
  | 0, _ => Int.le_refl _
  | d + 1, hd => Int.le_trans (up_far h i d (by omega)) (h (i + d) hd)
theorem upB_of {l : List Int} (h : ∀ i, (h : i + 1 < l.length) → l[i] ≤ l[i + 1]) : upB l = true := by
  refine decide_eq_true ?_
  rw [List.pairwise_iff_getElem]
  intro i j hi hj hij
  obtain ⟨d, rfl⟩ : ∃ d, j = i + d := ⟨j - i, by omega⟩
  exact up_far h i d hj
end Go.Proofs.Ytkjgddcjhikdgaa
