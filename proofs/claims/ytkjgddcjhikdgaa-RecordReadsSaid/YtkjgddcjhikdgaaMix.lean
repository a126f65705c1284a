/- Rows of the call's own that are being replaced element by element: the loops of record.Twin, without the program. -/
import Derived.Test.YtkjgddcjhikdgaaStore
namespace Go.Proofs.Ytkjgddcjhikdgaa
open Go Go.RowKit

theorem gb_refl (w : World) (row : Option Nat) : w.grownBy w row := ⟨rfl, rfl, rfl, Nat.le_refl _, fun _ _ _ => rfl⟩
theorem gb_trans {a b c : World} {row : Option Nat} (h : a.grownBy b row) (k : b.grownBy c row) : a.grownBy c row :=
  ⟨k.os.trans h.os, k.tape.trans h.tape, k.output.trans h.output, Nat.le_trans h.size k.size, fun i hi hr => (k.block i (Nat.lt_of_lt_of_le hi h.size) hr).trans (h.block i hi hr)⟩
theorem gb_setCell (w : World) (b i : Nat) (v : Value) : w.grownBy (w.setCell ⟨b, i, none⟩ v) (some b) :=
  ⟨rfl, rfl, rfl, by simp [World.setCell], fun k _ hk => Below.heap_setCell w ⟨b, i, none⟩ v k (fun e => hk (by rw [e]))⟩
theorem gb_below {w w' : World} (h : Below w.heap.size w w') (row : Option Nat) : w.grownBy w' row := ⟨h.os, h.tape, h.output, h.size, fun k hk _ => h.block k hk⟩
theorem Own.map {α β : Type} {base : Nat} {e : TypeId} {n : Nat} {dec : World → List Value → α → Prop} {dec' : World → List Value → β → Prop} (f : α → β) {w : World} {v : Value} {xs : List α} (h : Own base e n dec w v xs) (hd : ∀ x ∈ xs, ∀ cs, dec w cs x → dec' w cs (f x)) :
    Own base e n dec' w v (xs.map f) := by
  obtain ⟨cells, ho, h1, h2⟩ := h
  exact ⟨cells, by rw [List.length_map]; exact ho, by rw [List.length_map]; exact h1, fun i hi => by rw [List.getElem_map]; exact hd _ (List.getElem_mem _) _ (h2 i (by simpa using hi))⟩
theorem Own.setCell {α : Type} {base : Nat} {e : TypeId} {n : Nat} {dec : World → List Value → α → Prop} {S : Nat → Prop} (hst : Stable S dec) {w : World} {v : Value} {xs : List α} (h : Own base e n dec w v xs) {p : Addr} (hp : p.block < base) (hS : ¬ S p.block) (u : Value) :
    Own base e n dec (w.setCell p u) v xs := let ⟨cells, ho, hd⟩ := h; ⟨cells, ownsRow_setCell_below ho hp u, hd.same hst ((Same.refl _ _).setCell hS u)⟩
theorem setCell2_off {w : World} {g a b k : Nat} (h : k ≠ g) (c u : Value) : ((w.setCell ⟨g, a, none⟩ c).setCell ⟨g, b, none⟩ u).heap[k]? = w.heap[k]? :=
  (Below.heap_setCell _ ⟨g, b, none⟩ u k h).trans (Below.heap_setCell w ⟨g, a, none⟩ c k h)

/-- The inner row: its first j ballots are new, the others still lead to old memory. -/
def mixB (S : Nat → Prop) (lo : Nat) (v : Value) (w : World) (cs : List Value) (z : Blt × Bool) : Prop := if z.2 then wBlt (Rg lo w v) w cs z.1 else dBlt S w cs z.1
def MixIn (S : Nat → Prop) (lo : Nat) (w : World) (v : Value) (xs : List Blt) (j : Nat) (zs : List (Blt × Bool)) : Prop :=
  Own lo 25 2 (mixB S lo v) w v zs ∧ zs.map (·.1) = xs ∧ ∀ i (hi : i < zs.length), zs[i].2 = decide (i < j)
theorem MixIn.start {S : Nat → Prop} {lo : Nat} {w : World} {v : Value} {xs : List Blt} (h : Own lo 25 2 (dBlt S) w v xs) : MixIn S lo w v xs 0 (xs.map (·, false)) :=
  ⟨Own.map (·, false) h (fun x _ cs hd => by simpa [mixB] using hd), by simp [Function.comp_def], fun i hi => by simp⟩
theorem MixIn.step {S : Nat → Prop} {lo : Nat} {w w4 : World} {g n cap : Nat} {xs : List Blt} {j : Nat} {zs : List (Blt × Bool)} (h : MixIn S lo w (.slice (some ⟨g, 0, none⟩) n cap) xs j zs) (hj : j < zs.length) (hS : ∀ b, S b → b < lo)
    (hlo : lo ≤ w.heap.size) (hb : Below w.heap.size w w4) {c d : Value} (hy : wBlt (Span w.heap.size w4.heap.size) w4 [c, d] zs[j].1) :
    MixIn S lo ((w4.setCell ⟨g, j * 2, none⟩ c).setCell ⟨g, j * 2 + 1, none⟩ d) (.slice (some ⟨g, 0, none⟩) n cap) xs (j + 1) (zs.set j (zs[j].1, true)) := by
  have hg := Own.lt h.1 g rfl
  have hsz : ((w4.setCell ⟨g, j * 2, none⟩ c).setCell ⟨g, j * 2 + 1, none⟩ d).heap.size = w4.heap.size := by simp [World.setCell]
  have hsm : Same (fun b => b ≠ g) w ((w4.setCell ⟨g, j * 2, none⟩ c).setCell ⟨g, j * 2 + 1, none⟩ d) := fun b hb' hne => (setCell2_off hne c d).trans (hb.block b hb')
  refine ⟨Own.put2 (dec := mixB S lo _) h.1 hj (fun cur hc _ => heap_setCell2 ((hb.block g hg.2).trans hc) c d) ?_ (fun i hi hik cs hcs => ?_), ?_, ?_⟩
  · simp only [mixB, if_true]
    refine (wBlt.stable (Span w.heap.size w4.heap.size) _ _ _ _ (fun b _ hb' => setCell2_off (by have := hb'.1; omega) c d) hy).mono fun b hb' => ⟨by have := hb'.1; omega, by rw [hsz]; exact hb'.2, fun he => ?_⟩
    have h1 := hb'.1
    simp only [Value.ownBlock, Option.some.injEq] at he
    omega
  · simp only [mixB] at hcs ⊢
    split at hcs
    · rename_i ht
      rw [if_pos ht]
      refine (wBlt.stable (Rg lo w (.slice (some ⟨g, 0, none⟩) n cap)) _ _ _ _ (hsm.mono fun b hb' he => hb'.2.2 (by rw [he]; rfl)) hcs).mono fun b hb' => ⟨hb'.1, by rw [hsz]; exact Nat.lt_of_lt_of_le hb'.2.1 hb.size, hb'.2.2⟩
    · rename_i ht
      rw [if_neg ht]
      exact dBlt.stable S _ _ _ _ (hsm.mono fun b hb' he => by have := hS b hb'; omega) hcs
  · rw [List.map_set]
    have : zs.map (·.1) = xs := h.2.1
    rw [this]
    apply List.ext_getElem (by simp)
    intro i h1 h2
    rw [List.getElem_set]
    split
    · subst_vars; simp
    · rfl
  · intro i hi
    rw [List.getElem_set]
    split
    · subst_vars; simp
    · have := h.2.2 i (by simpa using hi)
      rw [this]
      by_cases hij : i < j
      · simp [hij]; omega
      · simp [hij]; omega
theorem MixIn.done {S : Nat → Prop} {lo : Nat} {w : World} {v : Value} {xs : List Blt} {zs : List (Blt × Bool)} (h : MixIn S lo w v xs xs.length zs) : OwnX lo 25 2 wBlt w v xs := by
  obtain ⟨h1, h2, h3⟩ := h
  subst h2
  refine Own.map _ h1 fun x hx cs hd => ?_
  obtain ⟨i, hi, rfl⟩ := List.getElem_of_mem hx
  have := h3 i hi
  simp only [List.length_map, hi, decide_true] at this
  simpa [mixB, this] using hd

/-- The outer row: its first k batches are new. -/
def mixC (S : Nat → Prop) (base : Nat) (v : Value) (w : World) (cs : List Value) (z : Sp × Bool) : Prop := if z.2 then dSep (Rg base w v) w cs z.1 else dBtc S w cs z.1.x
def MixOut (S : Nat → Prop) (base : Nat) (w : World) (v : Value) (l : List Btc) (k : Nat) (zs : List (Sp × Bool)) : Prop :=
  Own base 64 2 (mixC S base v) w v zs ∧ zs.map (·.1.x) = l ∧ (∀ i (hi : i < zs.length), zs[i].2 = decide (i < k)) ∧ (∀ i j (hj : j < zs.length) (hij : i < j), j < k → zs[i].1.hi ≤ zs[j].1.lo) ∧
    ∀ i (hi : i < zs.length), i < k → base ≤ zs[i].1.lo ∧ zs[i].1.lo ≤ zs[i].1.hi ∧ zs[i].1.hi ≤ w.heap.size
theorem MixOut.start {S : Nat → Prop} {base : Nat} {w : World} {v : Value} {l : List Btc} (h : Own base 64 2 (dBtc S) w v l) : MixOut S base w v l 0 (l.map fun x => (⟨x, 0, 0⟩, false)) :=
  ⟨Own.map (fun x => ((⟨x, 0, 0⟩ : Sp), false)) h (fun x _ cs hd => by simpa [mixC] using hd), by simp [Function.comp_def], fun i hi => by simp, fun i j hj hij h0 => by omega, fun i hi h0 => by omega⟩
theorem MixOut.done {S : Nat → Prop} {base : Nat} {w : World} {v : Value} {l : List Btc} {zs : List (Sp × Bool)} (h : MixOut S base w v l l.length zs) : Twinned base w v (zs.map (·.1)) ∧ (zs.map (·.1)).map (·.x) = l := by
  obtain ⟨h1, h2, h3, h4, h5⟩ := h
  have hl : zs.length = l.length := by rw [← h2]; simp
  refine ⟨⟨Own.map _ h1 fun x hx cs hd => ?_, ?_, fun y hy => ?_⟩, by rw [List.map_map]; exact h2⟩
  · obtain ⟨i, hi, rfl⟩ := List.getElem_of_mem hx
    have := h3 i hi
    rw [← hl] at this
    simp only [hi, decide_true] at this
    simpa [mixC, this] using hd
  · rw [List.pairwise_iff_getElem]
    intro i j hi hj hij
    simp only [List.getElem_map]
    exact h4 i j (by simpa using hj) hij (by rw [← hl]; simpa using hj)
  · obtain ⟨z, hz, rfl⟩ := List.mem_map.mp hy
    obtain ⟨i, hi, rfl⟩ := List.getElem_of_mem hz
    exact h5 i hi (by rw [← hl]; exact hi)
/-- One round: w is the world before it, w2 behind the clone of the inner row, whose value v2 has been stored, w' behind the inner loop. -/
theorem MixOut.step {S : Nat → Prop} {base : Nat} {w w2 w' : World} {g n cap : Nat} {l : List Btc} {k : Nat} {zs : List (Sp × Bool)} (h : MixOut S base w (.slice (some ⟨g, 0, none⟩) n cap) l k zs) (hk : k < zs.length) (hS : ∀ b, S b → b < base)
    (hlo : base ≤ w.heap.size) (hb : Below w.heap.size w w2) {v2 : Value} (hgr : (w2.setCell ⟨g, k * 2 + 1, none⟩ v2).grownBy w' v2.ownBlock) (hc : w.cell? ⟨g, k * 2, none⟩ = some (.string zs[k].1.x.name))
    (hn : zs[k].1.x.name.size ≤ 140737488355328) (hl2 : zs[k].1.x.blts.length ≤ 140737488355328) (hv2 : ∀ b, v2.ownBlock = some b → w.heap.size ≤ b) (hin : OwnX w.heap.size 25 2 wBlt w' v2 zs[k].1.x.blts) :
    MixOut S base w' (.slice (some ⟨g, 0, none⟩) n cap) l (k + 1) (zs.set k (⟨zs[k].1.x, w.heap.size, w'.heap.size⟩, true)) := by
  have hg := Own.lt h.1 g rfl
  have hsz : w2.heap.size ≤ w'.heap.size := by have := hgr.size; simpa [World.setCell] using this
  have hsz2 := hb.size
  have hblk : ∀ b, b < w.heap.size → w'.heap[b]? = (w2.setCell ⟨g, k * 2 + 1, none⟩ v2).heap[b]? := fun b hb' =>
    hgr.block b (by simp [World.setCell]; omega) (fun he => by have := hv2 b he.symm; omega)
  have hsm : Same (fun b => b ≠ g) w w' := fun b hb' hne => (hblk b hb').trans ((Below.heap_setCell w2 ⟨g, k * 2 + 1, none⟩ v2 b hne).trans (hb.block b hb'))
  have hc2 : w2.cell? ⟨g, k * 2, none⟩ = some (.string zs[k].1.x.name) := (hb.cell (p := ⟨g, k * 2, none⟩) hg.2).trans hc
  refine ⟨Own.put2 (dec := mixC S base _) h.1 hk (c := .string zs[k].1.x.name) (u := v2) (fun cur hcur _ => ?_) ?_ (fun i hi hik cs hcs => ?_), ?_, ?_, ?_, ?_⟩
  · obtain ⟨cur', k1, k2⟩ := heap_setCell1 (k := k) ((hb.block g hg.2).trans hcur) hc2 v2
    exact ⟨cur', (hblk g hg.2).trans k1, k2⟩
  · simp only [mixC, if_true]
    exact dSep.built (fun b h1 h2 => ⟨by omega, h2, fun he => by simp only [Value.ownBlock, Option.some.injEq] at he; omega⟩) hn hl2 hin
  · simp only [mixC] at hcs ⊢
    split at hcs
    · rename_i ht
      rw [if_pos ht]
      exact famSep.mono (fun b hb' => ⟨hb'.1, by have := hb'.2.1; omega, hb'.2.2⟩) (famSep.stable (Rg base w (.slice (some ⟨g, 0, none⟩) n cap)) _ _ _ _ (hsm.mono fun b hb' he => hb'.2.2 (by rw [he]; rfl)) hcs)
    · rename_i ht
      rw [if_neg ht]
      exact dBtc.stable S _ _ _ _ (hsm.mono fun b hb' he => by have := hS b hb'; omega) hcs
  · rw [List.map_set]
    have : zs.map (·.1.x) = l := h.2.1
    rw [this]
    apply List.ext_getElem (by simp)
    intro i h1 h2
    rw [List.getElem_set]
    split
    · subst_vars; simp
    · rfl
  · intro i hi
    rw [List.getElem_set]
    split
    · subst_vars; simp
    · have := h.2.2.1 i (by simpa using hi)
      rw [this]
      by_cases hij : i < k
      · simp [hij]; omega
      · simp [hij]; omega
  · intro i j hj hij hjk
    have hj' : j < zs.length := by simpa using hj
    rw [List.getElem_set, List.getElem_set]
    by_cases e1 : k = i
    · omega
    · rw [if_neg e1]
      by_cases e2 : k = j
      · rw [if_pos e2]
        exact (h.2.2.2.2 i (by omega) (by omega)).2.2
      · rw [if_neg e2]
        exact h.2.2.2.1 i j hj' hij (by omega)
  · intro i hi hik
    rw [List.getElem_set]
    by_cases e1 : k = i
    · rw [if_pos e1]; exact ⟨hlo, Nat.le_trans hsz2 hsz, Nat.le_refl _⟩
    · rw [if_neg e1]
      have := h.2.2.2.2 i (by simpa using hi) (by omega)
      omega
theorem MixOut.below {S : Nat → Prop} {base : Nat} {w w' : World} {v : Value} {l : List Btc} {k : Nat} {zs : List (Sp × Bool)} (h : MixOut S base w v l k zs) (hb : Below w.heap.size w w') : MixOut S base w' v l k zs := by
  refine ⟨?_, h.2.1, h.2.2.1, h.2.2.2.1, fun i hi hik => by have := h.2.2.2.2 i hi hik; have := hb.size; omega⟩
  have h1 : Own base 64 2 (fun _ => mixC S base v w) w v zs := Own.dmono (fun _ _ h => h) h.1
  obtain ⟨cells, ho, hd1, hd2⟩ := h.1
  refine ⟨cells, ho.kept (grownBy_of_below hb) (by cases v.ownBlock <;> simp), hd1, fun i hi => ?_⟩
  have hcs := hd2 i hi
  simp only [mixC] at hcs ⊢
  split at hcs
  · rename_i ht
    rw [if_pos ht]
    exact famSep.mono (fun b hb' => ⟨hb'.1, by have := hb'.2.1; have := hb.size; omega, hb'.2.2⟩) (famSep.stable _ _ _ _ _ (.of_below hb) hcs)
  · rename_i ht
    rw [if_neg ht]
    exact dBtc.stable S _ _ _ _ (.of_below hb) hcs
end Go.Proofs.Ytkjgddcjhikdgaa
