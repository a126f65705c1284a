/- Arguments that are manifests, ratios: read as rows. -/
import Derived.Test.YtkjgddcjhikdgaaArg
import Derived.Test.YtkjgddcjhikdgaaSlot
namespace Go.Proofs.Ytkjgddcjhikdgaa
open Go Go.RowKit Go.Deep Go.ChangeShapes Go.WideShapes Go.ChangeAt

theorem Try.cellsSlot : Try.prog.cellsOf 95 = 2 := by kernel_rfl
theorem Try.bytesSlot : Try.prog.bytesOf 95 = 24 := by kernel_rfl
section
variable {H : Type} {enc : TypeId × Value → H} {w : World} {base : Nat} {spare : Nat → Bool} {held : Bool}
set_option maxRecDepth 100000 in
theorem slot_of {fuel : Nat} {cs : List Value} {x : DataW H × List MemPlace} (h : DataW.trod enc Try.prog w base spare held fuel 95 cs = some x) (hz : ∀ m ∈ x.1.weights Try.prog 95, m ≤ reachBytes) : ∃ a, dSlot w cs a := by
  obtain ⟨y0, y1, n, rfl, hl, h0, h1⟩ := trod_struct2 Try.underlying95 h
  rw [Try.cellsSlot] at hl
  match cs, hl with
  | [c, d], _ =>
    simp only [Try.cellsStr, Try.cellsInt, List.drop_zero, List.take_succ_cons, List.take_zero, List.drop_succ_cons] at h0 h1
    obtain ⟨s, e0, hs⟩ := str_of_trod Try.underlying9 h0 (fun m hm => hz m (by simp [DataW.weights, Try.underlying95, DataW.weightsEach, hm]))
    obtain ⟨k, e1, hk⟩ := int_of_trod Try.underlying3 h1
    simp only [List.cons.injEq, and_true] at e0 e1
    subst e0 e1
    exact ⟨⟨s, k⟩, rfl, hs, hk⟩
set_option maxRecDepth 100000 in
theorem arg_slots {b0 : Nat} {v : Value} {d : DataW H} {ps : List MemPlace} (hv : Value.okWide Try.prog w .any b0 39 v) (h : DataW.Trod enc Try.prog w base spare held 39 v d ps)
    (hz : ∀ m ∈ d.weights Try.prog 39, m ≤ reachBytes) : ∃ xs, RSl Any 2 dSlot w v xs := by
  obtain ⟨a, n, c, rfl⟩ := okWide_slice Try.underlying39 hv
  obtain ⟨fuel, hf⟩ := h
  obtain ⟨u, xs, e, hr⟩ := rsl_of_trod (α := Slot) (dec := dSlot) Try.underlying39 Try.cellsSlot (by omega) (by rw [Try.bytesSlot]; omega) hf hz (fun _ _ _ hy hm => slot_of hy hm)
  simp [Value.cells] at e
  exact ⟨xs, e ▸ hr⟩
end
end Go.Proofs.Ytkjgddcjhikdgaa
