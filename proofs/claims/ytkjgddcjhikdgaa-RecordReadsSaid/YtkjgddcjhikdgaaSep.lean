/- Batches whose rows lie apart from each other. -/
import Derived.Test.YtkjgddcjhikdgaaOwnX
namespace Go.Proofs.Ytkjgddcjhikdgaa
open Go Go.RowKit

/-- A batch with the span of blocks in which its row and what it leads to lie. -/
structure Sp where
  x : Btc
  lo : Nat
  hi : Nat
def InRow (lo hi : Nat) (v : Value) : Nat → Prop := fun b => lo ≤ b ∧ b < hi ∧ some b ≠ v.ownBlock
def dSep (T : Nat → Prop) (w : World) (cs : List Value) (y : Sp) : Prop :=
  (∀ b, y.lo ≤ b → b < y.hi → T b) ∧ ∃ v, cs = [.string y.x.name, v] ∧ y.x.name.size ≤ 140737488355328 ∧ y.x.blts.length ≤ 140737488355328 ∧ (∀ g, v.ownBlock = some g → g < y.hi) ∧
    Own y.lo 25 2 (wBlt (InRow y.lo y.hi v)) w v y.x.blts
theorem Own.same {α : Type} {base : Nat} {e : TypeId} {n : Nat} {dec : World → List Value → α → Prop} {S : Nat → Prop} (hst : Stable S dec) {w w' : World} {v : Value} {xs : List α}
    (h : Own base e n dec w v xs) (hs : Same S w w') (hv : ∀ g, v.ownBlock = some g → S g) : Own base e n dec w' v xs := by
  obtain ⟨cells, ho, hd⟩ := h
  refine ⟨cells, ⟨ho.1, ?_⟩, hd.same hst hs⟩
  rcases ho.2 with h0 | ⟨g, cap, cur, rfl, h1, h2, h3⟩
  · exact .inl h0
  · exact .inr ⟨g, cap, cur, rfl, h1, (hs g (size_of_box h2) (hv g rfl)).trans h2, h3⟩
theorem famSep : Fam dSep where
  mono := fun hT ⟨h1, h2⟩ => ⟨fun b hl hh => hT b (h1 b hl hh), h2⟩
  stable := fun S w w' cs y hs ⟨h1, v, h2, h3, h4, h5, h6⟩ => by
    refine ⟨h1, v, h2, h3, h4, h5, Own.same (S := fun b => y.lo ≤ b ∧ b < y.hi) (fun a b c d he hd => ?_) h6 (hs.mono fun b hb => h1 b hb.1 hb.2) (fun g hg => ⟨(Own.lt h6 g hg).1, h5 g hg⟩)⟩
    exact wBlt.stable _ _ _ _ _ (he.mono fun b hb => ⟨hb.1, hb.2.1⟩) hd
  one := fun S w cs y h u hu => by
    obtain ⟨_, v, rfl, _, _, _, h6⟩ := h
    simp at hu
    rcases hu with rfl | rfl
    · rfl
    · obtain ⟨a, c, rfl⟩ := Own.shape h6; rfl
theorem dSep.toW {T : Nat → Prop} {w : World} {cs : List Value} {y : Sp} (h : dSep T w cs y) : wBtc T w cs y.x := by
  obtain ⟨h1, v, h2, h3, h4, h5, h6⟩ := h
  refine ⟨v, h2, h3, ?_⟩
  have h7 := Own.wsl h6 h4
  refine WSl.mono (S := Span y.lo y.hi) (fun _ _ _ h => h) (fun b hb => h1 b hb.1 hb.2) ⟨?_, h7.2⟩
  obtain ⟨a, cap, cells, hv, k1, k2, k3, k4⟩ := h7.1
  refine ⟨a, cap, cells, hv, k1, k2, ⟨k3.1, fun i hi => (k3.2 i hi).mono fun b hb => h1 b hb.1 hb.2.1⟩, ?_⟩
  rcases k4 with k4 | ⟨b, off, k5, k6, k7⟩
  · exact .inl k4
  · exact .inr ⟨b, off, k5, ⟨k6, h5 b (by rw [hv, k5]; rfl)⟩, k7⟩
/-- A row of the call's own of batches that lie apart. -/
def Twinned (base : Nat) (w : World) (v : Value) (ys : List Sp) : Prop :=
  OwnX base 64 2 dSep w v ys ∧ ys.Pairwise (fun a b => a.hi ≤ b.lo) ∧ ∀ y ∈ ys, base ≤ y.lo ∧ y.lo ≤ y.hi ∧ y.hi ≤ w.heap.size
theorem Twinned.nil (base : Nat) (w : World) : Twinned base w (.slice none 0 0) [] := ⟨OwnX.nil _ _ _ _ _, .nil, by simp⟩
theorem Twinned.below {base : Nat} {w w' : World} {v : Value} {ys : List Sp} (h : Twinned base w v ys) (hb : Below w.heap.size w w') : Twinned base w' v ys :=
  ⟨h.1.below famSep hb, h.2.1, fun y hy => by have := h.2.2 y hy; have := hb.size; omega⟩
theorem Dec.map {α β : Type} {n : Nat} {dec : World → List Value → α → Prop} {dec' : World → List Value → β → Prop} (f : α → β) {w : World} (hd : ∀ cs x, dec w cs x → dec' w cs (f x)) {cells : List Value} {xs : List α} (h : Dec n dec w cells xs) :
    Dec n dec' w cells (xs.map f) := ⟨by simpa using h.1, fun i hi => by rw [List.getElem_map]; exact hd _ _ (h.2 i (by simpa using hi))⟩
theorem WSl.map {α β : Type} {S : Nat → Prop} {n : Nat} {dec : World → List Value → α → Prop} {dec' : World → List Value → β → Prop} (f : α → β) {w : World} (hd : ∀ cs x, dec w cs x → dec' w cs (f x)) {v : Value} {xs : List α} (h : WSl S n dec w v xs) :
    WSl S n dec' w v (xs.map f) := by
  obtain ⟨⟨a, cap, cells, hv, k1, k2, k3, k4⟩, hw⟩ := h
  refine ⟨⟨a, cap, cells, by simpa using hv, by simpa using k1, by simpa using k2, k3.map f hd, ?_⟩, hw⟩
  rcases k4 with k4 | k4
  · exact .inl (by rw [k4]; rfl)
  · exact .inr k4
theorem Twinned.wsl {base : Nat} {w : World} {v : Value} {ys : List Sp} (h : Twinned base w v ys) (hl : ys.length ≤ 140737488355328) : WBtcs (Span base w.heap.size) w v (ys.map (·.x)) :=
  WSl.map _ (fun _ _ h => h.toW) (OwnX.wsl famSep (by omega) h.1 hl)
/-- A new element, built above the heap's old end. -/
theorem Twinned.push {base : Nat} {w : World} {v : Value} {ys : List Sp} {y : Sp} (hp : ys.Pairwise (fun a b => a.hi ≤ b.lo)) (hq : ∀ z ∈ ys, base ≤ z.lo ∧ z.lo ≤ z.hi ∧ z.hi ≤ y.lo) (hy : base ≤ y.lo ∧ y.lo ≤ y.hi ∧ y.hi ≤ w.heap.size)
    (ho : OwnX base 64 2 dSep w v (ys ++ [y])) : Twinned base w v (ys ++ [y]) := by
  refine ⟨ho, ?_, ?_⟩
  · rw [List.pairwise_append]
    exact ⟨hp, List.pairwise_singleton _ _, fun a ha b hb => by simp at hb; subst hb; exact (hq a ha).2.2⟩
  · intro z hz
    simp at hz
    rcases hz with hz | rfl
    · have := hq z hz; omega
    · exact hy
theorem dSep.built {T : Nat → Prop} {w : World} {lo : Nat} {v : Value} {x : Btc} (hT : ∀ b, lo ≤ b → b < w.heap.size → T b) (hn : x.name.size ≤ 140737488355328) (hl : x.blts.length ≤ 140737488355328) (h : OwnX lo 25 2 wBlt w v x.blts) :
    dSep T w [.string x.name, v] ⟨x, lo, w.heap.size⟩ :=
  ⟨hT, v, rfl, hn, hl, fun g hg => (Own.lt h g hg).2, h⟩
end Go.Proofs.Ytkjgddcjhikdgaa
