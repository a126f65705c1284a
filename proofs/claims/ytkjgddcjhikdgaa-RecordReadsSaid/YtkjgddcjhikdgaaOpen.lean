/- Arguments that read as data, opened into the reading predicates: slices of whatever element; which weights bound a length. Over any program. -/
import Derived.Test.YtkjgddcjhikdgaaApp
import Derived.Deep.Slices
import Derived.ProofKit
import Derived.SizedLaws
namespace Go.Proofs.Ytkjgddcjhikdgaa
open Go Go.RowKit Go.Deep

theorem list_of {α : Type} {n : Nat} {p : Nat → α → Prop} (h : ∀ i, i < n → ∃ x, p i x) : ∃ xs : List α, xs.length = n ∧ ∀ i (hi : i < xs.length), p i xs[i] := by
  induction n with
  | zero => exact ⟨[], rfl, fun i hi => by simp at hi⟩
  | succ n ih =>
    obtain ⟨xs, hl, hx⟩ := ih (fun i hi => h i (by omega))
    obtain ⟨x, hp⟩ := h n (by omega)
    refine ⟨xs ++ [x], by simp [hl], fun i hi => ?_⟩
    rw [List.getElem_append]
    split
    · exact hx i _
    · have : i = n := by simp at hi; omega
      subst this
      simpa [hl] using hp
theorem Dec.flat {α : Type} {n : Nat} {dec : World → List Value → α → Prop} {w : World} : ∀ (zs : List (List Value × α)), (∀ z ∈ zs, z.1.length = n ∧ dec w z.1 z.2) → Dec n dec w (zs.map (·.1)).flatten (zs.map (·.2))
  | [], _ => Dec.nil _ _ _
  | z :: zs, h => Dec.append (cs := z.1) (xs := [z.2]) (Dec.single (h z (by simp)).1 (h z (by simp)).2) (Dec.flat zs (fun y hy => h y (by simp [hy])))
theorem add_none (b off k : Nat) : (⟨b, off, none⟩ : Addr).add k = ⟨b, off + k, none⟩ := by unfold Addr.add; split <;> simp_all

section
variable {H : Type} {enc : TypeId × Value → H} {P : Program} {w : World} {base : Nat} {spare : Nat → Bool} {held : Bool}
theorem weights_all {e : TypeId} {m : Nat} {d : DataW H} (hm : m ∈ d.weights P e) : ∀ {l : List (DataW H)}, d ∈ l → m ∈ DataW.weightsAll P e l
  | x :: l, hd => by
    simp only [DataW.weightsAll, List.mem_append]
    rcases List.mem_cons.1 hd with rfl | hd
    · exact .inl hm
    · exact .inr (weights_all hm hd)
/-- A slice that reads as data reads as a row. -/
theorem rsl_of_trod {α : Type} {dec : World → List Value → α → Prop} {t e : TypeId} {n : Nat} (ht : P.underlying t = some (.slice e)) (hc : P.cellsOf e = n) (hn : 0 < n) (hb : 0 < P.bytesOf e) {fuel : Nat} {cs : List Value} {x : DataW H × List MemPlace}
    (h : DataW.trod enc P w base spare held fuel t cs = some x) (hz : ∀ m ∈ x.1.weights P t, m ≤ reachBytes)
    (hd : ∀ k cs y, DataW.trod enc P w base spare held k e cs = some y → (∀ m ∈ y.1.weights P e, m ≤ reachBytes) → ∃ a, dec w cs a) :
    ∃ v xs, cs = [v] ∧ RSl Any n dec w v xs := by
  subst hc
  rcases open_slice ht h with ⟨rfl, rfl⟩ | ⟨a, len, cap, m, k, D, Pl, rfl, -, hl, -, hm, rfl, hx⟩
  · exact ⟨_, [], rfl, RSl.nil⟩
  have hlm : len ≤ m := by rw [hm]; split <;> omega
  have hw : len ≤ 140737488355328 := by
    have h1 := hz ((((List.range len).map D).length + ((List.range (m - len)).map fun j => D (len + j)).length) * P.bytesOf e) (by simp [DataW.weights, ht])
    have h2 := Nat.le_mul_of_pos_right (((List.range len).map D).length + ((List.range (m - len)).map fun j => D (len + j)).length) hb
    simp only [List.length_map, List.length_range] at h1 h2
    have : reachBytes = 140737488351232 := by decide
    omega
  obtain ⟨zs, hzl, hzs⟩ := list_of (α := List Value × α) (n := len) (p := fun i z => z.1.length = P.cellsOf e ∧ (∀ r, r < P.cellsOf e → w.cell? ((a.add (i * P.cellsOf e)).add r) = z.1[r]?) ∧ dec w z.1 z.2) (fun i hi => by
    obtain ⟨cs', h1, h2⟩ := hx i (by omega)
    obtain ⟨_, hl1, hc1⟩ := World.cells?_some h1
    obtain ⟨y, hy⟩ := hd _ _ _ h2 (fun q hq => hz q (by
      simp only [DataW.weights, ht, List.mem_cons, List.mem_append]
      exact .inr (.inl (weights_all hq (List.mem_map.2 ⟨i, by simpa using hi, rfl⟩)))))
    exact ⟨(cs', y), hl1, hc1, hy⟩)
  have hD := Dec.flat (dec := dec) (w := w) (n := P.cellsOf e) zs (fun z hz' => by
    obtain ⟨i, hi, rfl⟩ := List.getElem_of_mem hz'
    exact ⟨(hzs i hi).1, (hzs i hi).2.2⟩)
  have hE := Dec.flat (dec := fun _ cs (z : List Value × α) => cs = z.1) (w := w) (n := P.cellsOf e) (zs.map fun z => (z.1, z)) (fun z hz' => by
    obtain ⟨z2, hz2, rfl⟩ := List.mem_map.1 hz'
    obtain ⟨i, hi, rfl⟩ := List.getElem_of_mem hz2
    exact ⟨(hzs i hi).1, rfl⟩)
  simp only [List.map_map, Function.comp_def, List.map_id'] at hE
  refine ⟨_, zs.map (·.2), rfl, some a, cap, (zs.map (·.1)).flatten, by simp [hzl], by simpa [hzl] using hl, by simpa [hzl] using hw, hD, ?_⟩
  rcases Nat.eq_zero_or_pos len with h0 | h0
  · refine .inl ?_
    have : zs = [] := List.eq_nil_of_length_eq_zero (by omega)
    rw [this]; rfl
  obtain ⟨b, off, spot⟩ := a
  have hsp : spot = none := by
    have h1 := (hzs 0 (by omega)).2.1 0 hn
    rw [Nat.zero_mul] at h1
    have h2 : (zs[0]'(by omega)).1[0]? = some ((zs[0]'(by omega)).1[0]'(by rw [(hzs 0 (by omega)).1]; exact hn)) := List.getElem?_eq_getElem _
    rw [h2] at h1
    simpa [Addr.add] using World.cell?_spot h1
  subst hsp
  refine .inr ⟨b, off, rfl, trivial, fun j u hu => ?_⟩
  have hj : j < zs.length * P.cellsOf e := by
    have h1 := (List.getElem?_eq_some_iff.1 hu).1
    have h2 := hD.1
    rw [List.length_map] at h2
    omega
  have hi : j / P.cellsOf e < zs.length := by rw [Nat.div_lt_iff_lt_mul hn]; exact hj
  have hr : j % P.cellsOf e < P.cellsOf e := Nat.mod_lt _ hn
  have hjr : j / P.cellsOf e * P.cellsOf e + j % P.cellsOf e = j := by rw [Nat.mul_comm]; exact Nat.div_add_mod j _
  have h1 := hE.2 (j / P.cellsOf e) hi
  have h2 := (hzs (j / P.cellsOf e) hi).2.1 _ hr
  rw [add_none, add_none, Nat.add_assoc, hjr] at h2
  rw [h2, ← h1, List.getElem?_take_of_lt hr, List.getElem?_drop, hjr]
  exact hu
theorem int_of_trod {t : TypeId} {k : IntKind} (ht : P.underlying t = some (.int k)) {fuel : Nat} {cs : List Value} {x : DataW H × List MemPlace} (h : DataW.trod enc P w base spare held fuel t cs = some x) : ∃ a, dInt k w cs a := by
  obtain ⟨n, rfl, _, hw⟩ := DataW.trod_int ht h
  exact ⟨n, rfl, hw⟩
theorem str_of_trod {t : TypeId} (ht : P.underlying t = some .string) {fuel : Nat} {cs : List Value} {x : DataW H × List MemPlace} (h : DataW.trod enc P w base spare held fuel t cs = some x) (hz : ∀ m ∈ x.1.weights P t, m ≤ reachBytes) :
    ∃ s : ByteArray, cs = [.string s] ∧ s.size ≤ 140737488355328 := by
  obtain ⟨s, rfl, rfl, _⟩ := DataW.trod_string ht h
  refine ⟨s, rfl, ?_⟩
  have := hz s.data.toList.length (by simp [DataW.weights])
  have h2 : reachBytes = 140737488351232 := by decide
  simp at this
  have h3 : s.size = s.data.size := rfl
  omega
theorem weights_each2 {a b : TypeId} {x y : DataW H} {m : Nat} : m ∈ DataW.weightsEach P [a, b] [x, y] ↔ m ∈ x.weights P a ∨ m ∈ y.weights P b := by
  simp [DataW.weightsEach]
end
end Go.Proofs.Ytkjgddcjhikdgaa
