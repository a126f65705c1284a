/- A region that draws its order, whose operations read and whose callees may lay blocks of their own: one walk in the order of the text serves every order. The class of worlds: the old blocks as they were, some new blocks behind them, any number of draws. -/
import Derived.Test.YtkjgddcjhikdgaaBase2
import Derived.Deep.QuietTactic
import Derived.BigQuiet
namespace Go.Proofs.Ytkjgddcjhikdgaa
open Go Go.RowKit

/-- The draws and the new blocks of a later world. -/
structure Ex where
  d : Nat
  os : Array Obj
  deriving Inhabited
def ext (w : World) (p : Ex) : World := { w with heap := w.heap ++ p.os, drawn := p.d }
theorem below_ext (w : World) (p : Ex) : Below w.heap.size w (ext w p) :=
  ⟨rfl, rfl, rfl, by simp [ext], fun k hk => by simp only [ext]; rw [Array.getElem?_append_left hk]⟩
theorem ext_of_below {w w' : World} (h : Below w.heap.size w w') : ∃ p, w' = ext w p := by
  refine ⟨⟨w'.drawn, w'.heap.extract w.heap.size w'.heap.size⟩, ?_⟩
  have hh : w'.heap = w.heap ++ w'.heap.extract w.heap.size w'.heap.size := by
    apply Array.ext_getElem?
    intro i
    by_cases hi : i < w.heap.size
    · rw [Array.getElem?_append_left hi]; exact h.block i hi
    · rw [Array.getElem?_append_right (by omega)]
      have := h.size
      by_cases h2 : i < w'.heap.size
      · rw [Array.getElem?_extract_of_lt (by omega)]
        have : w.heap.size + (i - w.heap.size) = i := by omega
        simp only [this]
        exact Array.getElem?_eq_getElem h2
      · rw [Array.getElem?_eq_none (by omega), Array.getElem?_eq_none (by simp; omega)]
  cases w' with
  | mk heap tape drawn os output =>
    simp only [ext] at hh ⊢
    have e1 := h.os; have e2 := h.tape; have e3 := h.output
    simp only at e1 e2 e3
    subst e1; subst e2; subst e3
    rw [← hh]
theorem cell_ext {w : World} {a : Addr} {v : Value} (h : w.cell? a = some v) (p : Ex) : (ext w p).cell? a = some v := by
  rw [(below_ext w p).cell (World.block_lt_of_cell? w a h)]; exact h
theorem wp_region_ext {P : Program} {id : Nat} {Q : Exit → Act → World → Prop} {a : Act} {w : World} {l : List Oper} (hm : P.follows .mixedOrders = true) (hB : Region.lexB .any l.toArray = true)
    (h : wpQuiet P l.toArray (fun w' => ∃ p : Ex, w' = ext w p) (fun a' => ∀ w', (∃ p : Ex, w' = ext w p) → Q .normal a' w') l a) : (Code.region id l.toArray true).wp P Q a w :=
  wp_region_quiet (C := fun w' => ∃ p : Ex, w' = ext w p) hm hB ⟨⟨w.drawn + 1, #[]⟩, by simp [ext]⟩ (by simpa using h)
/-- A callee's contract, met in a world of the class. -/
theorem calls_ext {P : Program} {f : FuncId} {args : Array Value} {w : World} {p : Ex} {v : Value}
    (h : Calls P f args (ext w p) fun e w' => e = .returned v ∧ Below (ext w p).heap.size (ext w p) w') : Calls P f args (ext w p) fun e w'' => e = .returned v ∧ ∃ q : Ex, w'' = ext w q :=
  h.mono fun _ _ ⟨he, hb⟩ => ⟨he, ext_of_below ((below_ext w p).trans (hb.mono (below_ext w p).size))⟩
/-- .. of a callee that leaves the world alone. -/
theorem calls_ext' {P : Program} {f : FuncId} {args : Array Value} {w : World} {p : Ex} {v : Value}
    (h : Calls P f args (ext w p) fun e w' => e = .returned v ∧ ext w p = w') : Calls P f args (ext w p) fun e w'' => e = .returned v ∧ ∃ q : Ex, w'' = ext w q :=
  h.mono fun _ _ ⟨he, hb⟩ => ⟨he, p, hb.symm⟩
end Go.Proofs.Ytkjgddcjhikdgaa
