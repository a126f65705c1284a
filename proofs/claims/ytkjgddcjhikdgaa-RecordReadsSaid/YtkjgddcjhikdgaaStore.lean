/- Stores into the elements of a row of the call's own. -/
import Derived.Test.YtkjgddcjhikdgaaSep
namespace Go.Proofs.Ytkjgddcjhikdgaa
open Go Go.RowKit

theorem take2 (cells : List Value) (i : Nat) (h : i * 2 + 1 < cells.length) : (cells.drop (i * 2)).take 2 = [cells[i * 2], cells[i * 2 + 1]] := by
  rw [List.drop_eq_getElem_cons (by omega), List.drop_eq_getElem_cons h, List.take_succ_cons, List.take_succ_cons, List.take_zero]
/-- Element k of an own row of two-cell elements has been replaced. -/
theorem Own.put2 {α : Type} {base : Nat} {e : TypeId} {dec dec' : World → List Value → α → Prop} {w w' : World} {g n cap : Nat} {xs : List α} (h : Own base e 2 dec w (.slice (some ⟨g, 0, none⟩) n cap) xs)
    {k : Nat} (hk : k < xs.length) {c u : Value} {y : α}
    (hb : ∀ cur, w.heap[g]? = some (.cells cur e (0, 0)) → cur.size = cap * 2 → ∃ cur', w'.heap[g]? = some (.cells cur' e (0, 0)) ∧ cur'.size = cur.size ∧ (k * 2 + 1 < cur.size → cur'[k * 2]? = some c ∧ cur'[k * 2 + 1]? = some u) ∧ ∀ j, j ≠ k * 2 → j ≠ k * 2 + 1 → cur'[j]? = cur[j]?)
    (hy : dec' w' [c, u] y) (hr : ∀ i (hi : i < xs.length), i ≠ k → ∀ cs, dec w cs xs[i] → dec' w' cs xs[i]) :
    Own base e 2 dec' w' (.slice (some ⟨g, 0, none⟩) n cap) (xs.set k y) := by
  obtain ⟨cells, ho, hd⟩ := h
  rcases ho.2 with ⟨h1, h0⟩ | ⟨g', cap', cur, h1, h2, h3, h4, h5, h6, h7⟩
  · cases h1
  simp only [Value.slice.injEq, Option.some.injEq, Addr.mk.injEq, and_true] at h1
  obtain ⟨rfl, hn, rfl⟩ := h1
  obtain ⟨cur', k1, k2, k3, k4⟩ := hb cur h3 h6
  have hlen := hd.1
  have hsz : k * 2 + 1 < cur.size := by omega
  obtain ⟨k5, k6⟩ := k3 hsz
  have hget : ∀ j, j < xs.length * 2 → (cur'.toList.take (xs.length * 2))[j]? = cur'[j]? := by
    intro j hj; rw [List.getElem?_take_of_lt hj]; simp
  have hget0 : ∀ j, j < xs.length * 2 → cells[j]? = cur[j]? := by
    intro j hj; rw [← h7, List.getElem?_take_of_lt hj]; simp
  have hl' : (cur'.toList.take (xs.length * 2)).length = xs.length * 2 := by rw [List.length_take]; simp; omega
  refine ⟨cur'.toList.take (xs.length * 2), ⟨by rw [List.length_set, hl'], .inr ⟨g, cap, cur', by rw [List.length_set]; simp [hn], h2, k1, by rw [List.length_set]; exact h4, h5, by omega, by rw [List.length_set]⟩⟩, ⟨by rw [List.length_set, hl'], fun i hi => ?_⟩⟩
  rw [List.length_set] at hi
  have hi2 : i * 2 + 1 < (cur'.toList.take (xs.length * 2)).length := by omega
  rw [take2 _ _ hi2]
  by_cases hik : i = k
  · subst hik
    have e1 : (cur'.toList.take (xs.length * 2))[i * 2] = c := by
      have := hget (i * 2) (by omega)
      rw [List.getElem?_eq_getElem (by omega), k5] at this
      exact Option.some.inj this
    have e2 : (cur'.toList.take (xs.length * 2))[i * 2 + 1] = u := by
      have := hget (i * 2 + 1) (by omega)
      rw [List.getElem?_eq_getElem (by omega), k6] at this
      exact Option.some.inj this
    rw [e1, e2, List.getElem_set_self]
    exact hy
  · have e1 : (cur'.toList.take (xs.length * 2))[i * 2] = cells[i * 2] := by
      have := hget (i * 2) (by omega)
      rw [List.getElem?_eq_getElem (by omega), k4 _ (by omega) (by omega), ← hget0 _ (by omega), List.getElem?_eq_getElem (by omega)] at this
      exact Option.some.inj this
    have e2 : (cur'.toList.take (xs.length * 2))[i * 2 + 1] = cells[i * 2 + 1] := by
      have := hget (i * 2 + 1) (by omega)
      rw [List.getElem?_eq_getElem (by omega), k4 _ (by omega) (by omega), ← hget0 _ (by omega), List.getElem?_eq_getElem (by omega)] at this
      exact Option.some.inj this
    rw [e1, e2, List.getElem_set_ne (by omega)]
    have := hd.2 i hi
    rw [take2 _ _ (by omega)] at this
    exact hr i hi hik _ this
/-- Element k of an own row of two-cell elements: its cells. -/
theorem Own.at2 {α : Type} {base : Nat} {e : TypeId} {dec : World → List Value → α → Prop} {w : World} {a : Option Addr} {n cap : Nat} {xs : List α} (h : Own base e 2 dec w (.slice a n cap) xs) {k : Nat} (hk : k < xs.length) :
    ∃ g c d, a = some ⟨g, 0, none⟩ ∧ base ≤ g ∧ g < w.heap.size ∧ w.cell? ⟨g, k * 2, none⟩ = some c ∧ w.cell? ⟨g, k * 2 + 1, none⟩ = some d ∧ (∀ o, w.frozen? ⟨g, o, none⟩ = false) ∧ dec w [c, d] xs[k] := by
  obtain ⟨cells, ho, hd⟩ := h
  rcases ho.2 with ⟨h1, h0⟩ | ⟨g, cap', cur, h1, h2, h3, h4, h5, h6, h7⟩
  · omega
  simp only [Value.slice.injEq] at h1
  have hlen := hd.1
  have hget0 : ∀ j, (hj : j < cells.length) → w.cell? ⟨g, j, none⟩ = some cells[j] := by
    intro j hj
    simp [World.cell?, h3]
    have : cells[j]? = cur[j]? := by rw [← h7, List.getElem?_take_of_lt (by omega)]; simp
    rw [← this, List.getElem?_eq_getElem hj]
  refine ⟨g, cells[k * 2], cells[k * 2 + 1], h1.1, h2, size_of_box h3, hget0 _ _, hget0 _ _, fun o => by simp [World.frozen?, h3], ?_⟩
  have := hd.2 k hk
  rwa [take2 _ _ (by omega)] at this
theorem heap_setCell2 {w : World} {g k : Nat} {cur : Array Value} {e : TypeId} (h : w.heap[g]? = some (.cells cur e (0, 0))) (c u : Value) :
    ∃ cur', ((w.setCell ⟨g, k * 2, none⟩ c).setCell ⟨g, k * 2 + 1, none⟩ u).heap[g]? = some (.cells cur' e (0, 0)) ∧ cur'.size = cur.size ∧ (k * 2 + 1 < cur.size → cur'[k * 2]? = some c ∧ cur'[k * 2 + 1]? = some u) ∧ ∀ j, j ≠ k * 2 → j ≠ k * 2 + 1 → cur'[j]? = cur[j]? := by
  refine ⟨_, heap_setCell_at (heap_setCell_at h c) u, by simp, fun hk => ⟨?_, ?_⟩, fun j h1 h2 => ?_⟩
  · rw [Array.getElem?_setIfInBounds_ne (by omega), Array.getElem?_setIfInBounds_self_of_lt (by omega)]
  · rw [Array.getElem?_setIfInBounds_self_of_lt (by simpa using hk)]
  · rw [Array.getElem?_setIfInBounds_ne (by omega), Array.getElem?_setIfInBounds_ne (by omega)]
theorem heap_setCell1 {w : World} {g k : Nat} {cur : Array Value} {e : TypeId} (h : w.heap[g]? = some (.cells cur e (0, 0))) {c : Value} (hc : w.cell? ⟨g, k * 2, none⟩ = some c) (u : Value) :
    ∃ cur', (w.setCell ⟨g, k * 2 + 1, none⟩ u).heap[g]? = some (.cells cur' e (0, 0)) ∧ cur'.size = cur.size ∧ (k * 2 + 1 < cur.size → cur'[k * 2]? = some c ∧ cur'[k * 2 + 1]? = some u) ∧ ∀ j, j ≠ k * 2 → j ≠ k * 2 + 1 → cur'[j]? = cur[j]? := by
  refine ⟨_, heap_setCell_at h u, by simp, fun hk => ⟨?_, ?_⟩, fun j h1 h2 => ?_⟩
  · rw [Array.getElem?_setIfInBounds_ne (by omega)]
    simpa [World.cell?, h] using hc
  · rw [Array.getElem?_setIfInBounds_self_of_lt hk]
  · rw [Array.getElem?_setIfInBounds_ne (by omega)]
end Go.Proofs.Ytkjgddcjhikdgaa
