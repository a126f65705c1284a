/- Arguments that are bytes: read as rows. -/
import Derived.Test.YtkjgddcjhikdgaaArg
import Derived.Test.YtkjgddcjhikdgaaOct
namespace Go.Proofs.Ytkjgddcjhikdgaa
open Go Go.RowKit Go.Deep Go.ChangeShapes Go.WideShapes Go.ChangeAt

section
variable {H : Type} {enc : TypeId × Value → H} {w : World} {base : Nat} {spare : Nat → Bool} {held : Bool}
set_option maxRecDepth 100000 in
theorem arg_bytes {b0 : Nat} {v : Value} {d : DataW H} {ps : List MemPlace} (hv : Value.okWide Try.prog w .any b0 61 v) (h : DataW.Trod enc Try.prog w base spare held 61 v d ps)
    (hz : ∀ m ∈ d.weights Try.prog 61, m ≤ reachBytes) : ∃ xs, RBytes Any w v xs := by
  obtain ⟨a, n, c, rfl⟩ := okWide_slice Try.underlying61 hv
  obtain ⟨fuel, hf⟩ := h
  obtain ⟨u, xs, e, hr⟩ := rsl_of_trod (α := Int) (dec := dInt .u8) Try.underlying61 Try.cellsU8 (by omega) (by rw [Try.bytesU8]; omega) hf hz (fun _ _ _ hy _ => int_of_trod Try.underlying5 hy)
  simp [Value.cells] at e
  exact ⟨xs, e ▸ hr⟩
end
end Go.Proofs.Ytkjgddcjhikdgaa
