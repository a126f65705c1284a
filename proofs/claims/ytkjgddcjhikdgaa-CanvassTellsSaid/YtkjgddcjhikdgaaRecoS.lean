/- What Reconcile finds, as a list; no program but for what its calls give. -/
import Derived.Test.YtkjgddcjhikdgaaFnd
namespace Go.Proofs.Ytkjgddcjhikdgaa
open Go Go.RowKit Go.Shelf Go.Maps

/-- The size of the last batch with a name. -/
def lastL (l : List Btc) (L : List UInt8) : Option Int := l.foldl (fun acc b => if b.name.data.toList = L then some (b.blts.length : Int) else acc) none
theorem lastL_snoc (l : List Btc) (b : Btc) (L : List UInt8) : lastL (l ++ [b]) L = if b.name.data.toList = L then some (b.blts.length : Int) else lastL l L := by simp [lastL]
def fndM (l : List Btc) (s : Slot) : List Fnd := match lastL l s.name.data.toList with | none => [⟨1, s.name, s.many, 0⟩] | some n => if n = s.many then [] else [⟨2, s.name, s.many, n⟩]
def hasN (m : List Slot) (L : List UInt8) : Bool := m.any fun s => decide (s.name.data.toList = L)
def fndX (m : List Slot) (b : Btc) : List Fnd := if hasN m b.name.data.toList then [] else [⟨3, b.name, 0, (b.blts.length : Int)⟩]
def allN (l : List Btc) : Int := (l.map fun b => (b.blts.length : Int)).sum
def fndV (all voted : Int) : List Fnd := if all = voted then [] else [⟨4, ⟨#[]⟩, voted, all⟩]
def recL (m : List Slot) (l : List Btc) (voted : Int) : List Fnd := m.flatMap (fndM l) ++ l.flatMap (fndX m) ++ fndV (allN l) voted
theorem allN_succ {l : List Btc} {k : Nat} (hk : k < l.length) : allN (l.take (k + 1)) = allN (l.take k) + (l[k].blts.length : Int) := by
  rw [List.take_succ_eq_append_getElem hk]; simp only [allN, List.map_append, List.map_cons, List.map_nil, List.sum_append, List.sum_cons, List.sum_nil]; omega
theorem allN_bound {l : List Btc} (hsm : Small l) : ∀ k, k ≤ l.length → 0 ≤ allN (l.take k) ∧ allN (l.take k) ≤ k * 1000000
  | 0, _ => by simp [allN]
  | k + 1, hk => by
    have h1 := allN_bound hsm k (by omega)
    have h2 := (hsm.2 _ (List.getElem_mem (show k < l.length by omega))).1
    rw [allN_succ (by omega)]
    omega
theorem flat_succ {α β : Type} (f : α → List β) {l : List α} {k : Nat} (hk : k < l.length) : (l.take (k + 1)).flatMap f = (l.take k).flatMap f ++ f l[k] := by
  rw [List.take_succ_eq_append_getElem hk, List.flatMap_append, List.flatMap_cons, List.flatMap_nil, List.append_nil]
theorem flat_len {α β : Type} (f : α → List β) (h1 : ∀ x, (f x).length ≤ 1) : ∀ l : List α, (l.flatMap f).length ≤ l.length
  | [] => by simp
  | x :: l => by have := flat_len f h1 l; have := h1 x; rw [List.flatMap_cons, List.length_append, List.length_cons]; omega
theorem fndM_len (l : List Btc) (s : Slot) : (fndM l s).length ≤ 1 := by unfold fndM; split <;> (try split) <;> simp
theorem fndX_len (m : List Slot) (b : Btc) : (fndX m b).length ≤ 1 := by unfold fndX; split <;> simp
theorem lastL_wf {l : List Btc} (hsm : Small l) {L : List UInt8} {n : Int} (h : lastL l L = some n) : 0 ≤ n ∧ n ≤ 1000000 := by
  have : ∀ k, k ≤ l.length → ∀ n, lastL (l.take k) L = some n → 0 ≤ n ∧ n ≤ 1000000 := by
    intro k
    induction k with
    | zero => intro _ n h; simp [lastL] at h
    | succ k ih =>
      intro hk n h
      rw [List.take_succ_eq_append_getElem (by omega), lastL_snoc] at h
      split at h
      · have h2 := (hsm.2 _ (List.getElem_mem (show k < l.length by omega))).1
        simp at h
        omega
      · exact ih (by omega) n h
  exact this l.length (Nat.le_refl _) n (by rw [List.take_length]; exact h)
/-- No two batches have one name. -/
def Apart (l : List Btc) : Prop := ∀ i j (hi : i < l.length) (hj : j < l.length), i ≠ j → sameName l[i].name l[j].name = false
theorem apart_of {l : List Btc} {c kind : Int} (h : recCheck l c kind = 0) : Apart l := by
  have hall : (List.range l.length).all (okAt l c kind) = true := by
    unfold recCheck at h
    split at h
    · split at h
      · omega
      · split at h
        · assumption
        · omega
    · omega
  have hlt : ∀ i j (hij : i < j) (hj : j < l.length), sameName (l[i]'(by omega)).name l[j].name = false := by
    intro i j hij hj
    have h1 := List.all_eq_true.1 hall j (List.mem_range.2 hj)
    simp only [okAt, List.getElem?_eq_getElem hj, Bool.and_eq_true, Bool.not_eq_true'] at h1
    have h2 := List.any_eq_false.1 h1.2 (l[i]'(by omega)) (List.mem_take_iff_getElem.2 ⟨i, by omega, rfl⟩)
    simpa using h2
  intro i j hi hj hne
  rcases Nat.lt_or_gt_of_ne hne with h1 | h1
  · exact hlt i j h1 hj
  · rw [sameName_comm]; exact hlt j i h1 hi
theorem lastL_none {l : List Btc} {L : List UInt8} (h : ∀ b ∈ l, b.name.data.toList ≠ L) : lastL l L = none := by
  have : ∀ k, k ≤ l.length → lastL (l.take k) L = none := by
    intro k
    induction k with
    | zero => intro _; simp [lastL]
    | succ k ih =>
      intro hk
      rw [List.take_succ_eq_append_getElem (by omega), lastL_snoc, if_neg (h _ (List.getElem_mem _)), ih (by omega)]
  have := this l.length (Nat.le_refl _)
  rwa [List.take_length] at this
theorem lastL_at {l : List Btc} {L : List UInt8} {i : Nat} (hi : i < l.length) (h : l[i].name.data.toList = L) (hn : ∀ j (hj : j < l.length), j ≠ i → l[j].name.data.toList ≠ L) : lastL l L = some (l[i].blts.length : Int) := by
  have : ∀ k, k ≤ l.length → lastL (l.take k) L = if i < k then some (l[i].blts.length : Int) else none := by
    intro k
    induction k with
    | zero => intro _; simp [lastL]
    | succ k ih =>
      intro hk
      rw [List.take_succ_eq_append_getElem (by omega), lastL_snoc, ih (by omega)]
      by_cases e : k = i
      · subst e; rw [if_pos h, if_pos (by omega)]
      · rw [if_neg (hn k (by omega) e)]
        by_cases h1 : i < k
        · rw [if_pos h1, if_pos (by omega)]
        · rw [if_neg h1, if_neg (by omega)]
  have := this l.length (Nat.le_refl _)
  rwa [List.take_length, if_pos hi] at this
/-- The reference's search in the manifest of batches gives the same. -/
theorem ofS_mani {l : List Btc} (ha : Apart l) (nm : ByteArray) : (ofS (maniL l) nm).isSome = (lastL l nm.data.toList).isSome ∧ ∀ n, lastL l nm.data.toList = some n → ((ofS (maniL l) nm).getD zS).many = n := by
  by_cases hex : ∃ i, ∃ hi : i < l.length, sameName l[i].name nm = true
  · obtain ⟨i, hi, he⟩ := hex
    have hother : ∀ j (hj : j < l.length), j ≠ i → sameName l[j].name nm = false := by
      intro j hj hne
      have h1 := ha j i hj hi hne
      rw [sameName_eq] at he h1 ⊢
      simp at he h1 ⊢
      exact fun h => h1 (h.trans he.symm)
    have hil : i < (maniL l).length := by simpa [maniL] using hi
    have ho : ofS (maniL l) nm = some (maniL l)[i] := ofS_at hil (by simpa [maniL] using he) (fun j hj => by simpa [maniL] using hother j (by omega) (by omega))
    have hl : lastL l nm.data.toList = some (l[i].blts.length : Int) := lastL_at hi (by rw [sameName_eq] at he; simpa using he) (fun j hj hne => by have := hother j hj hne; rw [sameName_eq] at this; simpa using this)
    rw [ho, hl]
    refine ⟨rfl, fun n hn => ?_⟩
    simp at hn
    simp [maniL, hn]
  · have hno : ∀ j (hj : j < l.length), sameName l[j].name nm = false := fun j hj => by
      cases hb : sameName l[j].name nm
      · rfl
      · exact absurd ⟨j, hj, hb⟩ hex
    have ho : ofS (maniL l) nm = none := ofS_none fun j hj => by simpa [maniL] using hno j (by simpa [maniL] using hj)
    have hl : lastL l nm.data.toList = none := lastL_none fun b hb => by
      obtain ⟨j, hj, rfl⟩ := List.getElem_of_mem hb
      have := hno j hj
      rw [sameName_eq] at this
      simpa using this
    rw [ho, hl]
    exact ⟨rfl, fun n hn => by cases hn⟩
theorem ofS_has (m : List Slot) (nm : ByteArray) : (ofS m nm).isSome = hasN m nm.data.toList := by
  have hp : (fun s : Slot => decide (s.name.data.toList = nm.data.toList)) = fun s => sameName s.name nm := by funext s; exact (sameName_eq _ _).symm
  rw [ofS, hasN, hp, Bool.eq_iff_iff, List.find?_isSome, List.any_eq_true]

def recoI (m : List Slot) (l : List Btc) (c kind voted : Int) : Int := if chkS m = 0 then (if recCheck l c kind = 0 then (if voted < 0 then 2 else 0) else recCheck l c kind) else chkS m
def recoV (m : List Slot) (l : List Btc) (c kind voted : Int) : List Fnd := if recoI m l c kind voted = 0 then recL m l voted else []
def RecoGives (m : List Slot) (l : List Btc) (c kind voted : Int) (w : World) (e : Ending) (w' : World) : Prop :=
  ∃ v, e = .returned (.tuple #[v, .int .i64 (recoI m l c kind voted)]) ∧ Own w.heap.size 113 4 dFnd w' v (recoV m l c kind voted) ∧ Below w.heap.size w w'
theorem RecoGives.none {m : List Slot} {l : List Btc} {c kind voted : Int} {w w' : World} {i : Int} (hi : recoI m l c kind voted = i) (h0 : i ≠ 0) (hb : Below w.heap.size w w') :
    RecoGives m l c kind voted w (.returned (.tuple #[.slice none 0 0, .int .i64 i])) w' := ⟨_, by rw [hi], by rw [recoV, if_neg (by rw [hi]; exact h0)]; exact Own.nil _ _ _ _ _, hb⟩
theorem RecoGives.some {m : List Slot} {l : List Btc} {c kind voted : Int} {w w' : World} {v : Value} {lo : Nat} (h1 : chkS m = 0) (h2 : recCheck l c kind = 0) (h3 : 0 ≤ voted) (hv : Own lo 113 4 dFnd w' v (recL m l voted)) (hlo : w.heap.size ≤ lo) (hb : Below w.heap.size w w') :
    RecoGives m l c kind voted w (.returned (.tuple #[v, .int .i64 0])) w' := by
  have hi : recoI m l c kind voted = 0 := by rw [recoI, if_pos h1, if_pos h2, if_neg (by omega)]
  exact ⟨v, by rw [hi], by rw [recoV, if_pos hi]; exact Own.rebase hv hlo, hb⟩
end Go.Proofs.Ytkjgddcjhikdgaa
