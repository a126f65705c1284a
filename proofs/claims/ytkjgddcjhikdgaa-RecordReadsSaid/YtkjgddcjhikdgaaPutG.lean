/- One more ballot in a batch of twinned batches. -/
import Derived.Test.YtkjgddcjhikdgaaPutS
namespace Go.Proofs.Ytkjgddcjhikdgaa
open Go Go.RowKit

section
variable {P : Program} (w : World)
theorem step_appV {α : Type} {z : Value} {size bytes : Nat} {ops : Array Oper} {o : Oper} {a : Act} {K : Act → World → Prop} {Q : Exit → Act → World → Prop} {E : Prop} {e t : TypeId} (hinfo : (P.info? e).map (fun i => (i.zero, i.size, i.bytes)) = some (some z, size, bytes))
    (hgd : o.guard = none) {s x : Operand} (ho : o.op = .call { callee := .builtin .append, args := #[s, x], argTypes := #[t, t] }) (ht : P.underlying t = some (.slice e))
    (hzs : z.cells.size = size ∧ 0 < size ∧ 0 < bytes) {S T : Nat → Prop} {dec : World → List Value → α → Prop} (h1 : OneC dec) (hst : Stable T dec) (base : Nat)
    {v : Value} {xs : List α} (hown : Own base e size dec w v xs) (hs : a.eval s = v) {u : Value} {ys : List α} (hu : RSl S size dec w u ys) (hx : a.eval x = u)
    (h63 : (xs.length + ys.length) * bytes ≤ 140737488355328) (hbase : base ≤ w.heap.size)
    (h : ∀ a' n' c' w', w.grownBy w' v.ownBlock → ((Value.slice a' n' c').ownBlock = v.ownBlock ∨ (Value.slice a' n' c').ownBlock = some w.heap.size) → (Same T w w' → Own base e size dec w' (.slice a' n' c') (xs ++ ys)) →
      K (a.put o.dst (.slice a' n' c')) w') :
    if Region.wanted o (yielded ops a.tmps) = true then Oper.wp P o a w K Q else E :=
  step_app w hinfo hgd ho ht hzs h1 hst base hown hs hu hx h63 hbase fun a' c' w' => h a' _ c' w'
theorem wpList_appV {α : Type} {z : Value} {size bytes : Nat} {ops : Array Oper} {rest : List Oper} {o : Oper} {a : Act} {Q : Exit → Act → World → Prop} {e t : TypeId} (hinfo : (P.info? e).map (fun i => (i.zero, i.size, i.bytes)) = some (some z, size, bytes))
    (hgd : o.guard = none) {s x : Operand} (ho : o.op = .call { callee := .builtin .append, args := #[s, x], argTypes := #[t, t] }) (ht : P.underlying t = some (.slice e))
    (hzs : z.cells.size = size ∧ 0 < size ∧ 0 < bytes) {S T : Nat → Prop} {dec : World → List Value → α → Prop} (h1 : OneC dec) (hst : Stable T dec) (base : Nat)
    {v : Value} {xs : List α} (hown : Own base e size dec w v xs) (hs : a.eval s = v) {u : Value} {ys : List α} (hu : RSl S size dec w u ys) (hx : a.eval x = u)
    (h63 : (xs.length + ys.length) * bytes ≤ 140737488355328) (hbase : base ≤ w.heap.size)
    (h : ∀ a' n' c' w', w.grownBy w' v.ownBlock → ((Value.slice a' n' c').ownBlock = v.ownBlock ∨ (Value.slice a' n' c').ownBlock = some w.heap.size) → (Same T w w' → Own base e size dec w' (.slice a' n' c') (xs ++ ys)) →
      wpList P ops Q rest (a.put o.dst (.slice a' n' c')) w') : wpList P ops Q (o :: rest) a w :=
  wpList_app w hinfo hgd ho ht hzs h1 hst base hown hs hu hx h63 hbase fun a' c' w' => h a' _ c' w'
end
/-- Where the ballots of the grown row lie: in the old row's span or in what has been built since, apart from the row. -/
def Gr (y : Sp) (d : Value) (m m' : Nat) : Nat → Prop := fun b => InRow y.lo y.hi d b ∨ (m ≤ b ∧ b < m')
theorem Twinned.at {base : Nat} {w : World} {a : Option Addr} {n cap : Nat} {ys : List Sp} (h : Twinned base w (.slice a n cap) ys) {k : Nat} (hk : k < ys.length) :
    ∃ g d, a = some ⟨g, 0, none⟩ ∧ base ≤ g ∧ g < w.heap.size ∧ w.cell? ⟨g, k * 2, none⟩ = some (.string ys[k].x.name) ∧ w.cell? ⟨g, k * 2 + 1, none⟩ = some d ∧ (∀ o, w.frozen? ⟨g, o, none⟩ = false) ∧
      ys[k].x.name.size ≤ 140737488355328 ∧ ys[k].x.blts.length ≤ 140737488355328 ∧ (∀ b, d.ownBlock = some b → ys[k].lo ≤ b ∧ b < ys[k].hi) ∧ (ys[k].lo ≤ ys[k].hi ∧ ys[k].hi ≤ w.heap.size) ∧ base ≤ ys[k].lo ∧ (∀ b, ys[k].lo ≤ b → b < ys[k].hi → b ≠ g) ∧
      (∃ a2 c2, d = .slice a2 ys[k].x.blts.length c2) ∧ Own ys[k].lo 25 2 (wBlt (InRow ys[k].lo ys[k].hi d)) w d ys[k].x.blts := by
  obtain ⟨g, c, d, rfl, h1, h2, h3, h4, h5, h6, v', h7, h8, h9, h10, h11⟩ := Own.at2 h.1 hk
  simp only [List.cons.injEq, and_true] at h7
  obtain ⟨rfl, rfl⟩ := h7
  have hm := h.2.2 _ (List.getElem_mem hk)
  exact ⟨g, d, rfl, h1, h2, h3, h4, h5, h8, h9, fun b hb => ⟨(Own.lt h11 b hb).1, h10 b hb⟩, hm.2, hm.1, fun b k1 k2 e => (h6 b k1 k2).2.2 (by rw [e]; rfl), Own.shape h11, h11⟩
/-- The result of Put: w the world in which the twin is as it was, w2 behind the copy of the ballot, w3 behind the append. -/
theorem Twinned.grow {base : Nat} {w w2 w3 : World} {g n cap : Nat} {ys : List Sp} (h : Twinned base w (.slice (some ⟨g, 0, none⟩) n cap) ys) {k : Nat} (hk : k < ys.length) (hl : ys.length ≤ 140737488355328) (hl2 : ys[k].x.blts.length < 140737488355328) {d d' : Value} {b : Blt} {o : Obj}
    (hd : w.cell? ⟨g, k * 2 + 1, none⟩ = some d) (hb : Below w.heap.size w w2) (hgr : (w2.alloc o).grownBy w3 d.ownBlock)
    (hob : d'.ownBlock = d.ownBlock ∨ d'.ownBlock = some (w2.alloc o).heap.size)
    (hown : Own ys[k].lo 25 2 (wBlt (Gr ys[k] d w.heap.size w2.heap.size)) w3 d' (ys[k].x.blts ++ [b])) :
    WBtcs (From base) (w3.setCell ⟨g, k * 2 + 1, none⟩ d') (.slice (some ⟨g, 0, none⟩) n cap) ((ys.map (·.x)).modify k (grow1 b)) := by
  obtain ⟨g', d0, e0, h1, h2, h3, h4, h5, h6, h7, h8, h9, h10, h11, -, -⟩ := h.at hk
  simp only [Option.some.injEq, Addr.mk.injEq, and_true] at e0
  subst e0
  rw [hd] at h4
  cases h4
  have hsz2 := hb.size
  have hsz3 : w2.heap.size + 1 ≤ w3.heap.size := by have := hgr.size; simpa using this
  have hblk : ∀ c, c < w.heap.size → some c ≠ d.ownBlock → w3.heap[c]? = w.heap[c]? := fun c hc hne =>
    (hgr.block c (by simp; omega) hne).trans ((Below.heap_alloc w2 o c (by omega)).trans (hb.block c hc))
  have hgd : some g ≠ d.ownBlock := fun e => by
    have := h8 g e.symm
    exact h11 g this.1 this.2 rfl
  have hgd' : some g ≠ d'.ownBlock := fun e => by
    rcases hob with k1 | k1
    · exact hgd (e.trans k1)
    · rw [k1] at e; simp at e; omega
  have hname : w3.cell? ⟨g, k * 2, none⟩ = some (.string ys[k].x.name) := (World.cell?_of_block (w := w) (a := ⟨g, k * 2, none⟩) (hblk g h2 hgd)).trans h3
  have hS : ∀ c, Gr ys[k] d w.heap.size w2.heap.size c → base ≤ c := fun c hc => by
    rcases hc with hc | hc
    · have := hc.1; omega
    · have := h1; omega
  have key : Own base 64 2 (fun w cs (y : Sp) => wBtc (From base) w cs y.x) (w3.setCell ⟨g, k * 2 + 1, none⟩ d') (.slice (some ⟨g, 0, none⟩) n cap) (ys.set k ⟨grow1 b ys[k].x, 0, 0⟩) := by
    refine Own.put2 (dec := dSep _) h.1 hk (c := .string ys[k].x.name) (u := d') (fun cur hcur _ => heap_setCell1 ((hblk g h2 hgd).trans hcur) hname d') ?_ (fun i hi hik cs hcs => ?_)
    · refine ⟨d', rfl, h6, ?_⟩
      have hw : Own ys[k].lo 25 2 (wBlt (Gr ys[k] d w.heap.size w2.heap.size)) (w3.setCell ⟨g, k * 2 + 1, none⟩ d') d' (ys[k].x.blts ++ [b]) := by
        have hst : Stable (fun c => c ≠ g) (wBlt (Gr ys[k] d w.heap.size w2.heap.size)) := fun a' b' c' x' he hx => wBlt.stable _ _ _ _ _ (he.mono fun c hc e => by
          subst e
          rcases hc with hc | hc
          · exact h11 c hc.1 hc.2.1 rfl
          · have := hc.1; omega) hx
        exact Own.same hst hown ((Same.refl _ _).setCell (p := ⟨g, k * 2 + 1, none⟩) (fun hh => hh rfl) _) (fun c hc e => hgd' (by rw [hc, e]))
      have hws := Own.wsl hw (by simp; omega)
      refine WSl.mono (fun _ _ _ hh => hh.mono hS) (fun c hc => ?_) hws
      have : ys[k].lo ≤ c := hc
      show base ≤ c
      omega
    · obtain ⟨hT, hrest⟩ := hcs
      have hmi := h.2.2 _ (List.getElem_mem hi)
      have hne : ∀ c, ys[i].lo ≤ c → c < ys[i].hi → c ≠ g := fun c k1 k2 e => (hT c k1 k2).2.2 (by rw [e]; rfl)
      have hdis : ∀ c, ys[i].lo ≤ c → c < ys[i].hi → some c ≠ d.ownBlock := fun c k1 k2 e => by
        have := h8 c e.symm
        rcases Nat.lt_or_gt_of_ne hik with hlt | hlt
        · have := (List.pairwise_iff_getElem.1 h.2.1) i k hi hk hlt; omega
        · have := (List.pairwise_iff_getElem.1 h.2.1) k i hk hi hlt; omega
      have hsep : dSep (Span ys[i].lo ys[i].hi) w cs ys[i] := ⟨fun c k1 k2 => ⟨k1, k2⟩, hrest⟩
      have h4 : dSep (Span ys[i].lo ys[i].hi) (w3.setCell ⟨g, k * 2 + 1, none⟩ d') cs ys[i] := by
        refine famSep.stable _ _ _ _ _ (fun c hc hcs => ?_) hsep
        exact (Below.heap_setCell w3 ⟨g, k * 2 + 1, none⟩ d' c (hne c hcs.1 hcs.2)).trans (hblk c hc (hdis c hcs.1 hcs.2))
      exact (h4.toW).mono fun c hc => by have := hc.1; show base ≤ c; omega
  have hmap : (ys.set k ⟨grow1 b ys[k].x, 0, 0⟩).map (·.x) = (ys.map (·.x)).modify k (grow1 b) := by
    rw [List.map_set]
    apply List.ext_getElem (by simp)
    intro i k1 k2
    rw [List.getElem_set, List.getElem_modify]
    by_cases e : k = i
    · subst e; simp
    · simp [e]
  rw [← hmap]
  exact WSl.map (fun y : Sp => y.x) (fun _ _ hh => hh) (Own.wsl key (by simpa using hl))
theorem keeps {w w6 w7 : World} {g : Nat} {row : Option Nat} (hg : g < w.heap.size) (hne : some g ≠ row) (hb : Below w.heap.size w w6) {o : Obj} (hgr : (w6.alloc o).grownBy w7 row) : w7.heap[g]? = w.heap[g]? :=
  (hgr.block g (by have := hb.size; simp; omega) hne).trans ((Below.heap_alloc w6 o g (by have := hb.size; omega)).trans (hb.block g hg))
theorem keeps_cell {w w6 w7 : World} {g i : Nat} {row : Option Nat} (hg : g < w.heap.size) (hne : some g ≠ row) (hb : Below w.heap.size w w6) {o : Obj} (hgr : (w6.alloc o).grownBy w7 row) {u : Value} (h : w.cell? ⟨g, i, none⟩ = some u) (hf : w.frozen? ⟨g, i, none⟩ = false) :
    w7.cell? ⟨g, i, none⟩ = some u ∧ w7.frozen? ⟨g, i, none⟩ = false :=
  ⟨(World.cell?_of_block (w := w) (a := ⟨g, i, none⟩) (keeps hg hne hb hgr)).trans h, (World.frozen?_of_block (w := w) (a := ⟨g, i, none⟩) (keeps hg hne hb hgr)).trans hf⟩
/-- The ballot that is appended, in the world behind its copy. -/
theorem Gr.new {y : Sp} {d : Value} {w w2 : World} {cs : List Value} {b : Blt} (h : wBlt (Span w.heap.size w2.heap.size) w2 cs b) (o : Obj) : wBlt (Gr y d w.heap.size w2.heap.size) (w2.alloc o) cs b :=
  (wBlt.stable _ _ _ _ _ (.of_below ((Below.refl _ _).alloc (Nat.le_refl _) _)) h).mono fun _ hc => .inr hc
theorem Gr.old {y : Sp} {d : Value} {w w2 : World} (h : Own y.lo 25 2 (wBlt (InRow y.lo y.hi d)) w d y.x.blts) (hb : Below w.heap.size w w2) (o : Obj) (m m' : Nat) :
    Own y.lo 25 2 (wBlt (Gr y d m m')) (w2.alloc o) d y.x.blts :=
  Own.dmono (fun _ _ hh => hh.mono fun _ hc => .inl hc) (Own.below (wBlt.stable _) h (hb.alloc hb.size o))
theorem Gr.same {y : Sp} {d : Value} {w w2 w3 : World} {o : Obj} (hgr : (w2.alloc o).grownBy w3 d.ownBlock) (_ : Below w.heap.size w w2) (hd : ∀ b, d.ownBlock = some b → b < w.heap.size) : Same (Gr y d w.heap.size w2.heap.size) (w2.alloc o) w3 :=
  .of_grown hgr fun c hc e => by
    rcases hc with hc | hc
    · exact hc.2.2 e
    · have := hd c e.symm; have := hc.1; omega
end Go.Proofs.Ytkjgddcjhikdgaa
