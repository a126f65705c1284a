/- Rows that may be written: their blocks are of the call's own and not frozen. -/
import Derived.Test.YtkjgddcjhikdgaaApp
namespace Go.Proofs.Ytkjgddcjhikdgaa
open Go Go.RowKit

/-- A block of cells that may be written. -/
def Soft (w : World) (b : Nat) : Prop := ∃ cur e, w.heap[b]? = some (.cells cur e (0, 0))
def Wr (w : World) (v : Value) : Prop := ∀ b o n c, v = .slice (some ⟨b, o, none⟩) n c → n ≠ 0 → Soft w b
theorem Soft.frozen {w : World} {b : Nat} (h : Soft w b) (o : Nat) : w.frozen? ⟨b, o, none⟩ = false := by
  obtain ⟨cur, e, h⟩ := h
  simp [World.frozen?, h]
theorem Soft.setCell {w : World} {b : Nat} (h : Soft w b) (g o : Nat) (u : Value) : Soft (w.setCell ⟨g, o, none⟩ u) b := by
  obtain ⟨cur, e, h⟩ := h
  by_cases hp : g = b
  · exact ⟨cur.setIfInBounds o u, e, by simp [World.setCell, Array.getElem?_modify, h, hp]⟩
  · exact ⟨cur, e, by rw [Below.heap_setCell w ⟨g, o, none⟩ u b (fun e => hp e.symm)]; exact h⟩
theorem Soft.same {S : Nat → Prop} {w w' : World} {b : Nat} (hs : Same S w w') (hb : S b) (h : Soft w b) : Soft w' b := by
  obtain ⟨cur, e, h⟩ := h
  exact ⟨cur, e, (hs b (size_of_box h) hb).trans h⟩
/-- A slice that reads as xs and whose block may be written. -/
def WSl {α : Type} (S : Nat → Prop) (n : Nat) (dec : World → List Value → α → Prop) (w : World) (v : Value) (xs : List α) : Prop := RSl S n dec w v xs ∧ Wr w v
theorem WSl.same {α : Type} {S : Nat → Prop} {n : Nat} {dec : World → List Value → α → Prop} (hst : Stable S dec) {w w' : World} {v : Value} {xs : List α} (hs : Same S w w') (h : WSl S n dec w v xs) : WSl S n dec w' v xs := by
  refine ⟨RSl.same hst hs h.1, fun b o m c hv hm => ?_⟩
  obtain ⟨a, cap, cells, hv', h1, h2, h3, h4⟩ := h.1
  rw [hv] at hv'
  simp only [Value.slice.injEq] at hv'
  rcases h4 with h4 | ⟨b', off, ha, hS, _⟩
  · exact absurd (hv'.2.1.trans (by rw [h4]; rfl)) hm
  · have : b = b' := by have := hv'.1.trans ha; simp at this; exact this.1
    exact (h.2 b o m c hv hm).same hs (this ▸ hS)
theorem WSl.mono {α : Type} {S T : Nat → Prop} {n : Nat} {dec dec' : World → List Value → α → Prop} (hd : ∀ w cs x, dec w cs x → dec' w cs x) (hT : ∀ b, S b → T b)
    {w : World} {v : Value} {xs : List α} (h : WSl S n dec w v xs) : WSl T n dec' w v xs := ⟨RSl.mono hd hT h.1, h.2⟩
theorem WSl.cut {α : Type} {S : Nat → Prop} {n : Nat} {dec dec' : World → List Value → α → Prop} {w : World} {v : Value} {xs : List α} (hn : 0 < n) (hd : ∀ cs x, dec w cs x → dec' w cs x) (h : WSl S n dec w v xs) : WSl (Cut S w.heap.size) n dec' w v xs :=
  ⟨RSl.cut hn hd h.1, h.2⟩
theorem WSl.nil {α : Type} {S : Nat → Prop} {n : Nat} {dec : World → List Value → α → Prop} {w : World} : WSl S n dec w (.slice none 0 0) ([] : List α) := ⟨RSl.nil, fun _ _ _ _ h => by simp at h⟩
theorem Own.wsl {α : Type} {base : Nat} {e : TypeId} {n : Nat} {dec : World → List Value → α → Prop} {w : World} {v : Value} {xs : List α} (h : Own base e n dec w v xs) (hl : xs.length ≤ 140737488355328) :
    WSl (From base) n dec w v xs := by
  refine ⟨Own.rsl h hl, fun b o m c hv hm => ?_⟩
  obtain ⟨cells, ho, _⟩ := h
  rcases ho.2 with ⟨h1, h0⟩ | ⟨g, cap, cur, h1, hb, hg, _⟩
  · rw [h1] at hv; simp at hv
  · rw [h1] at hv; simp at hv; exact ⟨cur, e, hv.1.1 ▸ hg⟩

def wBlt (S : Nat → Prop) (w : World) (cs : List Value) (x : Blt) : Prop := ∃ v, cs = [.int .u8 x.kind, v] ∧ 0 ≤ x.kind ∧ x.kind ≤ 255 ∧ WSl S 1 (dInt .i64) w v x.marks
def wBtc (S : Nat → Prop) (w : World) (cs : List Value) (x : Btc) : Prop := ∃ v, cs = [.string x.name, v] ∧ x.name.size ≤ 140737488355328 ∧ WSl S 2 (wBlt S) w v x.blts
theorem wBlt.toD {S : Nat → Prop} {w : World} {cs : List Value} {x : Blt} (h : wBlt S w cs x) : dBlt S w cs x := let ⟨v, h1, h2, h3, h4⟩ := h; ⟨v, h1, h2, h3, h4.1⟩
theorem wBtc.toD {S : Nat → Prop} {w : World} {cs : List Value} {x : Btc} (h : wBtc S w cs x) : dBtc S w cs x := let ⟨v, h1, h2, h3⟩ := h; ⟨v, h1, h2, RSl.mono (fun _ _ _ h => h.toD) (fun _ h => h) h3.1⟩
theorem wBlt.mono {S T : Nat → Prop} {w : World} {cs : List Value} {x : Blt} (hT : ∀ b, S b → T b) (h : wBlt S w cs x) : wBlt T w cs x := let ⟨v, h1, h2, h3, h4⟩ := h; ⟨v, h1, h2, h3, WSl.mono (fun _ _ _ h => h) hT h4⟩
theorem wBtc.mono {S T : Nat → Prop} {w : World} {cs : List Value} {x : Btc} (hT : ∀ b, S b → T b) (h : wBtc S w cs x) : wBtc T w cs x := let ⟨v, h1, h2, h3⟩ := h; ⟨v, h1, h2, WSl.mono (fun _ _ _ h => h.mono hT) hT h3⟩
theorem wBlt.stable (S : Nat → Prop) : Stable S (wBlt S) := fun _ _ _ _ hs ⟨v, h1, h2, h3, h4⟩ => ⟨v, h1, h2, h3, h4.same (dInt.stable S _) hs⟩
theorem wBtc.stable (S : Nat → Prop) : Stable S (wBtc S) := fun _ _ _ _ hs ⟨v, h1, h2, h3⟩ => ⟨v, h1, h2, h3.same (wBlt.stable S) hs⟩
theorem wBlt.cut {S : Nat → Prop} {w : World} {cs : List Value} {x : Blt} (h : wBlt S w cs x) : wBlt (Cut S w.heap.size) w cs x := let ⟨v, h1, h2, h3, h4⟩ := h; ⟨v, h1, h2, h3, WSl.cut (by omega) (fun _ _ h => h) h4⟩
theorem wBtc.cut {S : Nat → Prop} {w : World} {cs : List Value} {x : Btc} (h : wBtc S w cs x) : wBtc (Cut S w.heap.size) w cs x := let ⟨v, h1, h2, h3⟩ := h; ⟨v, h1, h2, WSl.cut (by omega) (fun _ _ h => h.cut) h3⟩
theorem wBlt.one (S : Nat → Prop) : OneC (wBlt S) := fun w cs x h => dBlt.one S w cs x h.toD
theorem wBtc.one (S : Nat → Prop) : OneC (wBtc S) := fun w cs x h => dBtc.one S w cs x h.toD
/-- A ballot by value whose row may be written. -/
def WBlt (S : Nat → Prop) (w : World) (v : Value) (x : Blt) : Prop := ∃ c d, v = .agg #[c, d] ∧ wBlt S w [c, d] x
def WBtcs (S : Nat → Prop) (w : World) (v : Value) (xs : List Btc) : Prop := WSl S 2 (wBtc S) w v xs
theorem WBtcs.toR {S : Nat → Prop} {w : World} {v : Value} {xs : List Btc} (h : WBtcs S w v xs) : RBtcs S w v xs := RSl.mono (fun _ _ _ h => h.toD) (fun _ h => h) h.1
theorem WBlt.toV {S : Nat → Prop} {w : World} {v : Value} {x : Blt} (h : WBlt S w v x) : VBlt S w v x := let ⟨c, d, h1, h2⟩ := h; ⟨c, d, h1, h2.toD⟩
theorem WBtcs.same {S : Nat → Prop} {w w' : World} {v : Value} {xs : List Btc} (hs : Same S w w') (h : WBtcs S w v xs) : WBtcs S w' v xs := WSl.same (wBtc.stable S) hs h
end Go.Proofs.Ytkjgddcjhikdgaa
