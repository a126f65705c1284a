/- Texts of one claim, put together: RecP. -/
import Derived.Test.YtkjgddcjhikdgaaGCan

/- What the record's and the manifest's checks say, as plain laws; no program but for what its calls give. -/
namespace Go.Proofs.Ytkjgddcjhikdgaa
open Go Go.RowKit Go.Shelf

theorem recCheck_ok {l : List Btc} {c kind : Int} (h : recCheck l c kind = 0) :
    (1 ≤ c ∧ c ≤ 10 ∧ 1 ≤ kind ∧ kind ≤ 3) ∧ l.length ≤ 16 ∧ (∀ b ∈ l, b.blts.length ≤ 64) ∧ (∀ b ∈ l, mayB b c kind = true) ∧ Apart l := by
  refine ⟨?_, ?_, ?_, ?_, apart_of h⟩
  all_goals
    unfold recCheck at h
    split at h
    · rename_i h1
      split at h
      · omega
      · rename_i h2
        simp only [not_or, Nat.not_lt, Bool.not_eq_true] at h2
        split at h
        · rename_i h3
          first
          | exact h1
          | exact h2.1
          | (intro b hb
             have := List.any_eq_false.1 h2.2 b hb
             simpa using this)
          | (intro b hb
             obtain ⟨j, hj, rfl⟩ := List.getElem_of_mem hb
             have h4 := List.all_eq_true.1 h3 j (List.mem_range.2 hj)
             simp only [okAt, List.getElem?_eq_getElem hj, Bool.and_eq_true] at h4
             exact h4.1)
        · omega
    · omega
theorem recCheck_of {l : List Btc} {c kind : Int} (h1 : 1 ≤ c ∧ c ≤ 10 ∧ 1 ≤ kind ∧ kind ≤ 3) (h2 : l.length ≤ 16) (h3 : ∀ b ∈ l, b.blts.length ≤ 64) (h4 : ∀ b ∈ l, mayB b c kind = true) (h5 : Apart l) : recCheck l c kind = 0 := by
  unfold recCheck
  rw [if_pos h1, if_neg, if_pos]
  · rw [List.all_eq_true]
    intro j hj
    have hj := List.mem_range.1 hj
    simp only [okAt, List.getElem?_eq_getElem hj, Bool.and_eq_true, Bool.not_eq_true', List.any_eq_false]
    refine ⟨h4 _ (List.getElem_mem hj), fun y hy => ?_⟩
    obtain ⟨i, hi, rfl⟩ := List.mem_take_iff_getElem.1 hy
    have := h5 i j (by omega) hj (by omega)
    simp [this]
  · simp only [not_or, Nat.not_lt, Bool.not_eq_true, List.any_eq_false]
    exact ⟨h2, fun b hb => by have := h3 b hb; simpa using this⟩
theorem chkS_ok {m : List Slot} (h : chkS m = 0) : m.length ≤ 16 ∧ (∀ s ∈ m, fineS s = true) ∧ ∀ i j (hi : i < m.length) (hj : j < m.length), i ≠ j → sameName m[i].name m[j].name = false := by
  unfold chkS at h
  split at h
  · omega
  · rename_i h1
    split at h
    · rename_i h2
      have h3 : ∀ j (hj : j < m.length), fineS m[j] = true ∧ ((m.take j).any fun t => sameName t.name m[j].name) = false := fun j hj => by
        have := List.all_eq_true.1 h2 j (List.mem_range.2 hj)
        rw [okAtS_of hj, Bool.and_eq_true, Bool.not_eq_true'] at this
        exact this
      refine ⟨by omega, fun s hs => ?_, fun i j hi hj hne => ?_⟩
      · obtain ⟨j, hj, rfl⟩ := List.getElem_of_mem hs
        exact (h3 j hj).1
      · have hlt : ∀ i j (hi : i < m.length) (hj : j < m.length), i < j → sameName m[i].name m[j].name = false := fun i j hi hj hij => by
          have := List.any_eq_false.1 (h3 j hj).2 m[i] (List.mem_take_iff_getElem.2 ⟨i, by omega, rfl⟩)
          simpa using this
        rcases Nat.lt_or_gt_of_ne hne with k | k
        · exact hlt i j hi hj k
        · rw [sameName_comm]; exact hlt j i hj hi k
    · omega
theorem chkS_zero {m : List Slot} (h1 : m.length ≤ 16) (h2 : ∀ s ∈ m, fineS s = true) (h3 : ∀ i j (hi : i < m.length) (hj : j < m.length), i ≠ j → sameName m[i].name m[j].name = false) : chkS m = 0 := by
  unfold chkS
  rw [if_neg (by omega), if_pos]
  rw [List.all_eq_true]
  intro j hj
  have hj := List.mem_range.1 hj
  rw [okAtS_of hj, Bool.and_eq_true, Bool.not_eq_true', List.any_eq_false]
  refine ⟨h2 _ (List.getElem_mem hj), fun y hy => ?_⟩
  obtain ⟨i, hi, rfl⟩ := List.mem_take_iff_getElem.1 hy
  have := h3 i j (by omega) hj (by omega)
  simp [this]
theorem len_le_of_nodup {α : Type} [DecidableEq α] : ∀ {a b : List α}, a.Nodup → (∀ x ∈ a, x ∈ b) → a.length ≤ b.length
  | [], _, _, _ => Nat.zero_le _
  | x :: a, b, hn, hs => by
    rw [List.nodup_cons] at hn
    have hx := hs x (List.mem_cons_self ..)
    have h1 := List.length_erase_of_mem hx
    have h2 := len_le_of_nodup (b := b.erase x) hn.2 fun y hy => (List.mem_erase_of_ne (fun (e : y = x) => hn.1 (e ▸ hy))).2 (hs y (List.mem_cons_of_mem _ hy))
    have h3 := List.length_pos_of_mem hx
    simp only [List.length_cons]
    omega
theorem mani_len (l : List Btc) : (maniL l).length = l.length := by simp [maniL]
theorem mani_get (l : List Btc) {i : Nat} (hi : i < (maniL l).length) : (maniL l)[i] = ⟨(l[i]'(by simpa [maniL] using hi)).name, ((l[i]'(by simpa [maniL] using hi)).blts.length : Int)⟩ := by simp [maniL]
theorem mani_chk {l : List Btc} {c kind : Int} (h : recCheck l c kind = 0) : chkS (maniL l) = 0 := by
  obtain ⟨-, h2, h3, h4, h5⟩ := recCheck_ok h
  refine chkS_zero (by rw [mani_len]; exact h2) (fun s hs => ?_) (fun i j hi hj hne => ?_)
  · obtain ⟨i, hi, rfl⟩ := List.getElem_of_mem hs
    rw [mani_get]
    have k1 := h4 _ (List.getElem_mem (show i < l.length by simpa [maniL] using hi))
    have k2 := h3 _ (List.getElem_mem (show i < l.length by simpa [maniL] using hi))
    simp only [mayB, Bool.and_eq_true] at k1
    simp only [fineS, Bool.and_eq_true, decide_eq_true_eq]
    exact ⟨k1.1, by omega⟩
  · rw [mani_get, mani_get]
    exact h5 i j _ _ hne
theorem lastL_of {l : List Btc} (ha : Apart l) {i : Nat} (hi : i < l.length) {nm : ByteArray} (he : sameName l[i].name nm = true) : lastL l nm.data.toList = some (l[i].blts.length : Int) := by
  rw [sameName_eq, decide_eq_true_eq] at he
  refine lastL_at hi he fun j hj hne e => ?_
  have := ha j i hj hi hne
  rw [sameName_eq, decide_eq_false_iff_not] at this
  exact this (e.trans he.symm)
theorem lastL_some {l : List Btc} (ha : Apart l) {L : List UInt8} {n : Int} (h : lastL l L = some n) : ∃ i, ∃ hi : i < l.length, l[i].name.data.toList = L ∧ n = (l[i].blts.length : Int) := by
  by_cases hex : ∃ b ∈ l, b.name.data.toList = L
  · obtain ⟨b, hb, he⟩ := hex
    obtain ⟨i, hi, rfl⟩ := List.getElem_of_mem hb
    have := lastL_of ha hi (nm := l[i].name) (by rw [sameName_eq]; simp)
    rw [he, h] at this
    exact ⟨i, hi, he, by simpa using this⟩
  · rw [lastL_none fun b hb e => hex ⟨b, hb, e⟩] at h
    cases h
theorem hasN_mani {l : List Btc} {b : Btc} (hb : b ∈ l) : hasN (maniL l) b.name.data.toList = true := by
  rw [hasN, List.any_eq_true]
  exact ⟨⟨b.name, (b.blts.length : Int)⟩, List.mem_map.2 ⟨b, hb, rfl⟩, by simp⟩
/-- Batches and their own manifest have no findings. -/
theorem mani_none {l : List Btc} (ha : Apart l) : recL (maniL l) l (allN l) = [] := by
  have h1 : (maniL l).flatMap (fndM l) = [] := by
    rw [List.flatMap_eq_nil_iff]
    intro s hs
    obtain ⟨i, hi, rfl⟩ := List.getElem_of_mem hs
    rw [mani_get, fndM]
    rw [lastL_of ha (show i < l.length by simpa [maniL] using hi) (by rw [sameName_eq]; simp)]
    simp
  have h2 : l.flatMap (fndX (maniL l)) = [] := by
    rw [List.flatMap_eq_nil_iff]
    intro b hb
    rw [fndX, hasN_mani hb, if_pos rfl]
  rw [recL, h1, h2, fndV, if_pos rfl]
  rfl
/-- A manifest without findings is that of the batches, but for its order. -/
theorem none_fits {m : List Slot} {l : List Btc} {voted : Int} (ha : Apart l) (hm : ∀ i j (hi : i < m.length) (hj : j < m.length), i ≠ j → sameName m[i].name m[j].name = false) (h : recL m l voted = []) :
    voted = allN l ∧ m.length = l.length ∧ ∀ s ∈ m, ∃ i, ∃ hi : i < l.length, l[i].name.data.toList = s.name.data.toList ∧ s.many = (l[i].blts.length : Int) := by
  rw [recL, List.append_eq_nil_iff, List.append_eq_nil_iff] at h
  obtain ⟨⟨h1, h2⟩, h3⟩ := h
  have k1 : ∀ s ∈ m, ∃ i, ∃ hi : i < l.length, l[i].name.data.toList = s.name.data.toList ∧ s.many = (l[i].blts.length : Int) := by
    intro s hs
    have := List.flatMap_eq_nil_iff.1 h1 s hs
    unfold fndM at this
    split at this
    · cases this
    · rename_i n hn
      split at this
      · rename_i he
        obtain ⟨i, hi, e1, e2⟩ := lastL_some ha hn
        exact ⟨i, hi, e1, by omega⟩
      · cases this
  have k2 : ∀ b ∈ l, hasN m b.name.data.toList = true := by
    intro b hb
    have := List.flatMap_eq_nil_iff.1 h2 b hb
    unfold fndX at this
    split at this
    · assumption
    · cases this
  refine ⟨?_, ?_, k1⟩
  · unfold fndV at h3
    split at h3
    · rename_i e; exact e.symm
    · cases h3
  · have n1 : (m.map fun s => s.name.data.toList).Nodup := by
      rw [List.Nodup, List.pairwise_iff_getElem]
      intro i j hi hj hij
      have := hm i j (by simpa using hi) (by simpa using hj) (by omega)
      rw [sameName_eq, decide_eq_false_iff_not] at this
      simpa using this
    have n2 : (l.map fun b => b.name.data.toList).Nodup := by
      rw [List.Nodup, List.pairwise_iff_getElem]
      intro i j hi hj hij
      have := ha i j (by simpa using hi) (by simpa using hj) (by omega)
      rw [sameName_eq, decide_eq_false_iff_not] at this
      simpa using this
    have l1 := len_le_of_nodup n1 (b := l.map fun b => b.name.data.toList) fun x hx => by
      obtain ⟨s, hs, rfl⟩ := List.mem_map.1 hx
      obtain ⟨i, hi, e, -⟩ := k1 s hs
      exact List.mem_map.2 ⟨l[i], List.getElem_mem hi, e⟩
    have l2 := len_le_of_nodup n2 (b := m.map fun s => s.name.data.toList) fun x hx => by
      obtain ⟨b, hb, rfl⟩ := List.mem_map.1 hx
      have := k2 b hb
      rw [hasN, List.any_eq_true] at this
      obtain ⟨s, hs, e⟩ := this
      exact List.mem_map.2 ⟨s, hs, by simpa using e⟩
    simp only [List.length_map] at l1 l2
    omega
/-- How many of the batches' slots equal this one. -/
def hits (own : List Slot) (s : Slot) : Nat := own.countP fun t => eqSlot s t
theorem countP_one {α : Type} {p : α → Bool} : ∀ {l : List α} {i : Nat} (hi : i < l.length), p l[i] = true → (∀ j (hj : j < l.length), j ≠ i → p l[j] = false) → l.countP p = 1
  | [], _, hi, _, _ => by simp at hi
  | a :: l, 0, _, h, ho => by
    have h0 : l.countP p = 0 := List.countP_eq_zero.2 fun x hx => by
      obtain ⟨j, hj, rfl⟩ := List.getElem_of_mem hx
      have := ho (j + 1) (by simpa using hj) (by omega)
      simpa using this
    rw [List.countP_cons_of_pos (by simpa using h), h0]
  | a :: l, i + 1, hi, h, ho => by
    have hf := ho 0 (by simp) (by omega)
    rw [List.countP_cons_of_neg (by simpa using hf)]
    exact countP_one (i := i) (by simpa using hi) (by simpa using h) fun j hj hne => by
      have := ho (j + 1) (by simpa using hj) (by omega)
      simpa using this
theorem hits_one {l : List Btc} (ha : Apart l) {s : Slot} (h : ∃ i, ∃ hi : i < l.length, l[i].name.data.toList = s.name.data.toList ∧ s.many = (l[i].blts.length : Int)) : hits (maniL l) s = 1 := by
  obtain ⟨i, hi, e1, e2⟩ := h
  refine countP_one (i := i) (by rw [mani_len]; exact hi) ?_ fun j hj hne => ?_
  · rw [mani_get, eqSlot, sameName_eq, Bool.and_eq_true, decide_eq_true_eq, decide_eq_true_eq]
    exact ⟨e1.symm, e2⟩
  · rw [mani_get, eqSlot, Bool.and_eq_false_iff]
    refine .inl ?_
    have := ha j i (by simpa [maniL] using hj) hi hne
    rw [sameName_eq, decide_eq_false_iff_not] at this ⊢
    exact fun e => this (e.symm.trans e1.symm)
theorem hits_le (own : List Slot) (s : Slot) (k : Nat) : (own.take k).countP (fun t => eqSlot s t) ≤ own.length := Nat.le_trans (List.countP_le_length ..) (by simp; omega)
theorem hits_succ {own : List Slot} {s : Slot} {k : Nat} (hk : k < own.length) : (own.take (k + 1)).countP (fun t => eqSlot s t) = (own.take k).countP (fun t => eqSlot s t) + if eqSlot s own[k] then 1 else 0 := by
  rw [List.take_succ_eq_append_getElem hk, List.countP_append, List.countP_singleton]
end Go.Proofs.Ytkjgddcjhikdgaa
