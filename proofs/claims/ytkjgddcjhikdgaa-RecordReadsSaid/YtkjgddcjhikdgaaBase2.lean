/- More lemmas on the reading predicates. -/
import Derived.Test.YtkjgddcjhikdgaaBase
namespace Go.Proofs.Ytkjgddcjhikdgaa
open Go Go.RowKit

theorem RSl.take {α : Type} {S : Nat → Prop} {n : Nat} {dec : World → List Value → α → Prop} {w : World} {a : Option Addr} {m cap : Nat} {xs : List α} (h : RSl S n dec w (.slice a m cap) xs) (k : Nat) (hk : k ≤ xs.length) :
    RSl S n dec w (.slice a k cap) (xs.take k) := by
  obtain ⟨a', cap', cells, hv, h1, h2, h3, h4⟩ := h
  simp only [Value.slice.injEq] at hv
  obtain ⟨rfl, _, rfl⟩ := hv
  have hl : (xs.take k).length = k := by simp; omega
  refine ⟨a, cap, cells.take (k * n), by rw [hl], by omega, by omega, ⟨by rw [List.length_take, hl, h3.1]; exact Nat.min_eq_left (Nat.mul_le_mul_right _ hk), fun i hi => ?_⟩, ?_⟩
  · rw [hl] at hi
    rw [List.getElem_take]
    have hkn : i * n + n ≤ k * n := by rw [← Nat.succ_mul]; exact Nat.mul_le_mul_right _ hi
    have : ((cells.take (k * n)).drop (i * n)).take n = (cells.drop (i * n)).take n := by
      rw [List.drop_take, List.take_take, Nat.min_eq_left (by omega)]
    rw [this]
    exact h3.2 i (by omega)
  · rcases h4 with h4 | ⟨b, off, ha, hS, hc⟩
    · exact .inl (by rw [h4]; simp)
    · refine .inr ⟨b, off, ha, hS, fun j u hu => hc j u ?_⟩
      rw [List.getElem?_take] at hu
      split at hu
      · exact hu
      · cases hu

theorem RSl.cap {α : Type} {S : Nat → Prop} {n : Nat} {dec : World → List Value → α → Prop} {w : World} {a : Option Addr} {m cap : Nat} {xs : List α} (h : RSl S n dec w (.slice a m cap) xs) : xs.length ≤ cap := by
  obtain ⟨_, _, _, hv, h1, _⟩ := h
  simp only [Value.slice.injEq] at hv
  omega
end Go.Proofs.Ytkjgddcjhikdgaa
