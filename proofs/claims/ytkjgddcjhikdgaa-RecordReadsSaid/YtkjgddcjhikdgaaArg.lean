/- The arguments of the laws: batches, ballots, integers and bytes that read as data read as rows. -/
import Derived.Test.YtkjgddcjhikdgaaOpen
import Derived.Test.YtkjgddcjhikdgaaProg
import Derived.KernelRfl
import Derived.Lib.SmallJoins
namespace Go.Proofs.Ytkjgddcjhikdgaa
open Go Go.RowKit Go.Deep Go.ChangeShapes Go.WideShapes Go.ChangeAt

theorem Try.cellsInt : Try.prog.cellsOf 3 = 1 := by kernel_rfl
theorem Try.bytesInt : Try.prog.bytesOf 3 = 8 := by kernel_rfl
theorem Try.cellsU8 : Try.prog.cellsOf 5 = 1 := by kernel_rfl
theorem Try.cellsStr : Try.prog.cellsOf 9 = 1 := by kernel_rfl
theorem Try.bytesU8 : Try.prog.bytesOf 5 = 1 := by kernel_rfl
theorem Try.cellsInts : Try.prog.cellsOf 23 = 1 := by kernel_rfl
theorem Try.cellsBlts : Try.prog.cellsOf 62 = 1 := by kernel_rfl
theorem Try.cellsBlt : Try.prog.cellsOf 25 = 2 := by kernel_rfl
theorem Try.bytesBlt : Try.prog.bytesOf 25 = 32 := by kernel_rfl
theorem Try.cellsBtc : Try.prog.cellsOf 64 = 2 := by kernel_rfl
theorem Try.bytesBtc : Try.prog.bytesOf 64 = 40 := by kernel_rfl
theorem Try.own : ownKnob Try.prog.godebug = none := by kernel_rfl
theorem Try.laidOut : laidOutB Try.prog = true := by kernel_rfl

section
variable {H : Type} {enc : TypeId × Value → H} {w : World} {base : Nat} {spare : Nat → Bool} {held : Bool}
theorem wf_u8 {x : Int} (h : (Lit.int .u8 x).wf = true) : 0 ≤ x ∧ x ≤ 255 := by
  simp [Lit.wf, IntKind.min, IntKind.max, IntKind.bits, IntKind.signed] at h
  omega
theorem ints_of {fuel : Nat} {cs : List Value} {x : DataW H × List MemPlace} (h : DataW.trod enc Try.prog w base spare held fuel 23 cs = some x) (hz : ∀ m ∈ x.1.weights Try.prog 23, m ≤ reachBytes) : ∃ v xs, cs = [v] ∧ RInts Any w v xs :=
  rsl_of_trod Try.underlying23 Try.cellsInt (by omega) (by rw [Try.bytesInt]; omega) h hz (fun _ _ _ hy _ => int_of_trod Try.underlying3 hy)
set_option maxRecDepth 100000 in
theorem blt_of {fuel : Nat} {cs : List Value} {x : DataW H × List MemPlace} (h : DataW.trod enc Try.prog w base spare held fuel 25 cs = some x) (hz : ∀ m ∈ x.1.weights Try.prog 25, m ≤ reachBytes) : ∃ a, dBlt Any w cs a := by
  obtain ⟨y0, y1, n, rfl, hl, h0, h1⟩ := trod_struct2 Try.underlying25 h
  rw [Try.cellsBlt] at hl
  match cs, hl with
  | [c, d], _ =>
    simp only [Try.cellsU8, Try.cellsInts, List.drop_zero, List.take_succ_cons, List.take_zero, List.drop_succ_cons] at h0 h1
    obtain ⟨kind, e0, hk⟩ := int_of_trod Try.underlying5 h0
    obtain ⟨v, xs, e1, hr⟩ := ints_of h1 (fun m hm => hz m (by simp [DataW.weights, Try.underlying25, DataW.weightsEach, hm]))
    simp only [List.cons.injEq, and_true] at e0 e1
    subst e0 e1
    exact ⟨⟨kind, xs⟩, _, rfl, (wf_u8 hk).1, (wf_u8 hk).2, hr⟩
set_option maxRecDepth 100000 in
theorem btc_of {fuel : Nat} {cs : List Value} {x : DataW H × List MemPlace} (h : DataW.trod enc Try.prog w base spare held fuel 64 cs = some x) (hz : ∀ m ∈ x.1.weights Try.prog 64, m ≤ reachBytes) : ∃ a, dBtc Any w cs a := by
  obtain ⟨y0, y1, n, rfl, hl, h0, h1⟩ := trod_struct2 Try.underlying64 h
  rw [Try.cellsBtc] at hl
  match cs, hl with
  | [c, d], _ =>
    simp only [Try.cellsStr, Try.cellsBlts, List.drop_zero, List.take_succ_cons, List.take_zero, List.drop_succ_cons] at h0 h1
    obtain ⟨s, e0, hs⟩ := str_of_trod Try.underlying9 h0 (fun m hm => hz m (by simp [DataW.weights, Try.underlying64, DataW.weightsEach, hm]))
    obtain ⟨v, xs, e1, hr⟩ := rsl_of_trod (α := Blt) (dec := dBlt Any) Try.underlying62 Try.cellsBlt (by omega) (by rw [Try.bytesBlt]; omega) h1
      (fun m hm => hz m (by simp [DataW.weights, Try.underlying64, DataW.weightsEach, hm])) (fun _ _ _ hy hm => blt_of hy hm)
    simp only [List.cons.injEq, and_true] at e0 e1
    subst e0 e1
    exact ⟨⟨s, xs⟩, _, rfl, hs, hr⟩
theorem btcs_of {fuel : Nat} {cs : List Value} {x : DataW H × List MemPlace} (h : DataW.trod enc Try.prog w base spare held fuel 22 cs = some x) (hz : ∀ m ∈ x.1.weights Try.prog 22, m ≤ reachBytes) : ∃ v xs, cs = [v] ∧ RBtcs Any w v xs :=
  rsl_of_trod Try.underlying22 Try.cellsBtc (by omega) (by rw [Try.bytesBtc]; omega) h hz (fun _ _ _ hy hm => btc_of hy hm)

set_option maxRecDepth 100000 in
/-- An argument: batches. -/
theorem arg_btcs {b0 : Nat} {v : Value} {d : DataW H} {ps : List MemPlace} (hv : Value.okWide Try.prog w .any b0 22 v) (h : DataW.Trod enc Try.prog w base spare held 22 v d ps)
    (hz : ∀ m ∈ d.weights Try.prog 22, m ≤ reachBytes) : ∃ xs, RBtcs Any w v xs := by
  obtain ⟨a, n, c, rfl⟩ := okWide_slice Try.underlying22 hv
  obtain ⟨fuel, hf⟩ := h
  obtain ⟨u, xs, e, hr⟩ := btcs_of hf hz
  simp [Value.cells] at e
  exact ⟨xs, e ▸ hr⟩
set_option maxRecDepth 100000 in
theorem arg_ints {b0 : Nat} {v : Value} {d : DataW H} {ps : List MemPlace} (hv : Value.okWide Try.prog w .any b0 23 v) (h : DataW.Trod enc Try.prog w base spare held 23 v d ps)
    (hz : ∀ m ∈ d.weights Try.prog 23, m ≤ reachBytes) : ∃ xs, RInts Any w v xs := by
  obtain ⟨a, n, c, rfl⟩ := okWide_slice Try.underlying23 hv
  obtain ⟨fuel, hf⟩ := h
  obtain ⟨u, xs, e, hr⟩ := ints_of hf hz
  simp [Value.cells] at e
  exact ⟨xs, e ▸ hr⟩
set_option maxRecDepth 100000 in
theorem arg_str {b0 : Nat} {v : Value} {d : DataW H} {ps : List MemPlace} (hv : Value.okWide Try.prog w .any b0 9 v) (h : DataW.Trod enc Try.prog w base spare held 9 v d ps)
    (hz : ∀ m ∈ d.weights Try.prog 9, m ≤ reachBytes) : ∃ s : ByteArray, v = .string s ∧ s.size ≤ 140737488355328 := by
  obtain ⟨s, rfl, rfl, rfl, _⟩ := Go.ChangeMaps.open_string Try.underlying9 hv h
  obtain ⟨fuel, hf⟩ := h
  obtain ⟨u, e, hu⟩ := str_of_trod Try.underlying9 hf hz
  simp [Value.cells] at e
  exact ⟨s, rfl, e ▸ hu⟩
set_option maxRecDepth 100000 in
theorem arg_blt {b0 : Nat} {v : Value} {d : DataW H} {ps : List MemPlace} (hv : Value.okWide Try.prog w .any b0 25 v) (h : DataW.Trod enc Try.prog w base spare held 25 v d ps)
    (hz : ∀ m ∈ d.weights Try.prog 25, m ≤ reachBytes) : ∃ x, VBlt Any w v x := by
  obtain ⟨cs, rfl, hsz⟩ := okWide_struct Try.underlying25 hv
  obtain ⟨c, d', rfl⟩ := Go.Joins.array2 (hsz.trans Try.cellsBlt)
  obtain ⟨c0, d0, y0, y1, n, e0, rfl, rfl, h0, h1⟩ := Go.Joins.open_agg2 Try.underlying25 (by kernel_rfl) Try.cellsBlt hv h
  simp only [Value.agg.injEq, Array.mk.injEq, List.cons.injEq, and_true] at e0
  obtain ⟨rfl, rfl⟩ := e0
  obtain ⟨kind, e0, hk⟩ := int_of_trod Try.underlying5 h0
  obtain ⟨v, xs, e1, hr⟩ := ints_of h1 (fun m hm => hz m (by simp [DataW.weights, Try.underlying25, DataW.weightsEach, hm]))
  simp only [List.cons.injEq, and_true] at e0 e1
  subst e0 e1
  exact ⟨⟨kind, xs⟩, _, _, rfl, _, rfl, (wf_u8 hk).1, (wf_u8 hk).2, hr⟩
/-- What is read of the arguments is within the reach, argument by argument. -/
theorem weights_at {P : Program} {ts : List TypeId} {ds : List (DataW H)} (hz : (DataW.weightsEach P ts ds).all (· ≤ reachBytes) = true) (j : Nat) {t : TypeId} {d : DataW H} (ht : ts[j]? = some t) (hd : ds[j]? = some d) : ∀ m ∈ d.weights P t, m ≤ reachBytes :=
  fun m hm => by simpa using List.all_eq_true.1 hz m (DataW.weights_mem_each ht hd m hm)
end
end Go.Proofs.Ytkjgddcjhikdgaa
