/- Replacing batches by those of another count: the list, and the row of the call's own in which it is done. -/
import Derived.Test.YtkjgddcjhikdgaaCmp
import Derived.Test.YtkjgddcjhikdgaaMap
namespace Go.Proofs.Ytkjgddcjhikdgaa
open Go Go.RowKit Go.Shelf

def replL (a b : List Btc) (is : List Int) : List Btc := is.foldl (fun acc i => acc.set i.toNat (b.getD i.toNat zC)) a
theorem replL_snoc (a b : List Btc) (is : List Int) (i : Int) : replL a b (is ++ [i]) = (replL a b is).set i.toNat (b.getD i.toNat zC) := by simp [replL]
theorem replL_len (a b : List Btc) (is : List Int) : (replL a b is).length = a.length := by
  unfold replL
  induction is generalizing a with
  | nil => rfl
  | cons i is ih => rw [List.foldl_cons, ih]; simp
/-- The indices are in range, and none occurs twice. -/
def okB (n : Nat) (is : List Int) : Bool := is.all (fun i => decide (0 ≤ i ∧ i < n)) && decide is.Nodup
theorem okB_nil (n : Nat) : okB n [] = true := rfl
theorem okB_snoc {n : Nat} {is : List Int} {i : Int} (h : okB n is = true) : okB n (is ++ [i]) = (decide (0 ≤ i ∧ i < n) && !decide (i ∈ is)) := by
  simp only [okB, Bool.and_eq_true, decide_eq_true_eq] at h
  simp only [okB, List.all_append, h.1, List.all_cons, List.all_nil, Bool.true_and, Bool.and_true]
  by_cases hr : 0 ≤ i ∧ i < n
  · simp only [hr, and_self, decide_true, Bool.true_and]
    by_cases hm : i ∈ is
    · simp [hm, List.nodup_append]
    · simp only [hm, decide_false, Bool.not_false, decide_eq_true_eq]
      rw [List.nodup_append]
      refine ⟨h.2, by simp, fun x hx y hy => ?_⟩
      simp at hy
      subst hy
      exact fun he => hm (he ▸ hx)
  · simp [hr]
theorem okB_take {n : Nat} {is : List Int} {k : Nat} (hk : k < is.length) (h : okB n (is.take k) = true) : okB n (is.take (k + 1)) = (decide (0 ≤ is[k] ∧ is[k] < n) && !decide (is[k] ∈ is.take k)) := by
  rw [List.take_succ_eq_append_getElem hk, okB_snoc h]
theorem okB_false {n : Nat} {is : List Int} {k : Nat} (h : okB n (is.take k) = false) : okB n is = false := by
  cases hb : okB n is
  · rfl
  · simp only [okB, Bool.and_eq_true, List.all_eq_true, decide_eq_true_eq] at hb
    have : okB n (is.take k) = true := by
      simp only [okB, Bool.and_eq_true, List.all_eq_true, decide_eq_true_eq]
      exact ⟨fun x hx => hb.1 x (List.mem_of_mem_take hx), hb.2.sublist (List.take_sublist _ _)⟩
    rw [this] at h
    cases h

/-- From lo on, below hi, but for the row's own block. -/
def RepT (lo hi : Nat) (v : Value) : Nat → Prop := fun b => lo ≤ b ∧ b < hi ∧ some b ≠ v.ownBlock
def RepOut (lo mid hi : Nat) (w3 wr : World) (v : Value) (a b : List Btc) (is : List Int) : Prop :=
  Own lo 64 2 (wBtc (RepT lo hi v)) wr v (replL a b is) ∧ Same (Span mid hi) w3 wr ∧ (∀ g, v.ownBlock = some g → g < mid) ∧ lo ≤ mid ∧ mid ≤ hi ∧ hi ≤ wr.heap.size
theorem RepOut.start {lo : Nat} {w2 w3 : World} {v : Value} {ys : List Sp} {a b : List Btc} (h : Twinned lo w2 v ys) (hy : ys.map (·.x) = a) (hlo : lo ≤ w2.heap.size) (hb : Below w2.heap.size w2 w3) :
    RepOut lo w2.heap.size w3.heap.size w3 w3 v a b [] := by
  have h1 := h.below hb
  have h2 := Own.map (dec' := wBtc (RepT lo w3.heap.size v)) (·.x) h1.1 (fun x _ cs hd => (dSep.toW hd).mono fun b hb => ⟨hb.1, hb.2.1, hb.2.2⟩)
  rw [hy] at h2
  exact ⟨h2, Same.refl _ _, fun g hg => (Own.lt h.1 g hg).2, hlo, hb.size, Nat.le_refl _⟩
theorem RepOut.at {lo mid hi : Nat} {w3 wr : World} {a1 : Option Addr} {n c : Nat} {a b : List Btc} {is : List Int} (h : RepOut lo mid hi w3 wr (.slice a1 n c) a b is) {k : Nat} (hk : k < a.length) :
    ∃ g x y, a1 = some ⟨g, 0, none⟩ ∧ lo ≤ g ∧ g < mid ∧ g < wr.heap.size ∧ wr.cell? ⟨g, k * 2, none⟩ = some x ∧ wr.cell? ⟨g, k * 2 + 1, none⟩ = some y ∧ ∀ o, wr.frozen? ⟨g, o, none⟩ = false := by
  obtain ⟨g, x, y, rfl, h1, h2, h3, h4, h5, -⟩ := Own.at2 h.1 (by rw [replL_len]; exact hk)
  exact ⟨g, x, y, rfl, h1, h.2.2.1 g rfl, h2, h3, h4, h5⟩
/-- The other count's batch, read in the middle. -/
theorem other_at {mid hi : Nat} {w3 wr : World} {a2 : Option Addr} {n2 c2 : Nat} {b : List Btc} (h : WBtcs (Span mid hi) w3 (.slice a2 n2 c2) b) (hs : Same (Span mid hi) w3 wr) {k : Nat} (hk : k < b.length) :
    ∃ g off p q, a2 = some ⟨g, off, none⟩ ∧ mid ≤ g ∧ wr.cell? ⟨g, off + k * 2, none⟩ = some (.string b[k].name) ∧ wr.cell? ⟨g, off + k * 2 + 1, none⟩ = some (.slice p b[k].blts.length q) ∧ wBtc (Span mid hi) wr [.string b[k].name, .slice p b[k].blts.length q] b[k] := by
  obtain ⟨g, off, c, d, rfl, hS, -, hc, hd, hx⟩ := RSl.at2 (WBtcs.same hs h).1 k hk
  obtain ⟨p, q, rfl, rfl, -⟩ := hx.toD.open
  exact ⟨g, off, p, q, rfl, hS.1, hc, hd, hx⟩
theorem RepOut.step {lo mid hi : Nat} {w3 wr w' : World} {g n c : Nat} {a b : List Btc} {is : List Int} (h : RepOut lo mid hi w3 wr (.slice (some ⟨g, 0, none⟩) n c) a b is) {i : Int} {k : Nat} (hi' : i = k) (hk : k < a.length) (hkb : k < b.length) {x y : Value}
    (hx : wBtc (Span mid hi) wr [x, y] b[k]) (hw : ∀ j, j < hi → w'.heap[j]? = ((wr.setCell ⟨g, k * 2, none⟩ x).setCell ⟨g, k * 2 + 1, none⟩ y).heap[j]?) (hz : wr.heap.size ≤ w'.heap.size) :
    RepOut lo mid hi w3 w' (.slice (some ⟨g, 0, none⟩) n c) a b (is ++ [i]) := by
  obtain ⟨h1, h2, h3, h4, hmh, h5⟩ := h
  subst hi'
  have hg := h3 g rfl
  have hoff : ∀ j, j < hi → j ≠ g → w'.heap[j]? = wr.heap[j]? := fun j hj hne => (hw j hj).trans (setCell2_off hne x y)
  refine ⟨?_, fun j hj hS => (hoff j hS.2 (by have := hS.1; omega)).trans (h2 j hj hS), h3, h4, hmh, Nat.le_trans h5 hz⟩
  have hset : replL a b (is ++ [(k : Int)]) = (replL a b is).set k b[k] := by rw [replL_snoc, Int.toNat_natCast, getD_at zC hkb]
  rw [hset]
  refine Own.put2 h1 (by rw [replL_len]; exact hk) (c := x) (u := y) (fun cur hcur _ => ?_) ?_ (fun j hj hjk cs hcs => ?_)
  · obtain ⟨cur', e1, e2⟩ := heap_setCell2 (k := k) hcur x y
    exact ⟨cur', (hw g (by omega)).trans e1, e2⟩
  · refine (wBtc.stable (Span mid hi) _ _ _ _ (fun j _ hS => hoff j hS.2 (by have := hS.1; omega)) hx).mono fun j hS => ⟨by have := hS.1; omega, hS.2, fun he => ?_⟩
    simp only [Value.ownBlock, Option.some.injEq] at he
    have := hS.1
    omega
  · exact wBtc.stable (RepT lo hi (.slice (some ⟨g, 0, none⟩) n c)) _ _ _ _ (fun j _ hS => hoff j hS.2.1 (fun he => hS.2.2 (by rw [he]; rfl))) hcs
theorem RepOut.done {lo mid hi : Nat} {w3 wr : World} {v : Value} {a b : List Btc} {is : List Int} (h : RepOut lo mid hi w3 wr v a b is) (hl : a.length ≤ 1000000) : WBtcs (From lo) wr v (replL a b is) :=
  WSl.mono (fun _ _ _ hd => hd.mono fun _ hb => hb.1) (fun _ hb => hb) (Own.wsl h.1 (by rw [replL_len]; omega))
end Go.Proofs.Ytkjgddcjhikdgaa
