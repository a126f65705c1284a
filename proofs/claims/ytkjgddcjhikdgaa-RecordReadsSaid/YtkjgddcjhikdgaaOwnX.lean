/- Rows of the call's own whose elements have memory of their own: what is read lies apart from the row's block. -/
import Derived.Test.YtkjgddcjhikdgaaWr
import Derived.Test.YtkjgddcjhikdgaaBase2
import Derived.Test.YtkjgddcjhikdgaaQuiet
namespace Go.Proofs.Ytkjgddcjhikdgaa
open Go Go.RowKit

/-- A family of decodings, by the region in which what is read lies. -/
structure Fam {α : Type} (dec : (Nat → Prop) → World → List Value → α → Prop) : Prop where
  mono : ∀ {S T : Nat → Prop} {w : World} {cs : List Value} {x : α}, (∀ b, S b → T b) → dec S w cs x → dec T w cs x
  stable : ∀ S, Stable S (dec S)
  one : ∀ S, OneC (dec S)
theorem famInt (k : IntKind) : Fam (fun _ => dInt k) := ⟨fun _ h => h, fun S => dInt.stable S k, fun _ => dInt.one k⟩
theorem famBlt : Fam dBlt := ⟨fun h x => dBlt.mono h x, dBlt.stable, dBlt.one⟩
theorem famBltW : Fam wBlt := ⟨fun h x => wBlt.mono h x, wBlt.stable, wBlt.one⟩
theorem famBtcW : Fam wBtc := ⟨fun h x => wBtc.mono h x, wBtc.stable, wBtc.one⟩
theorem famBtc : Fam dBtc := ⟨fun h x => dBtc.mono h x, dBtc.stable, dBtc.one⟩

/-- The blocks from base on, below the heap's end, but for the row's own. -/
def Rg (base : Nat) (w : World) (v : Value) : Nat → Prop := fun b => base ≤ b ∧ b < w.heap.size ∧ some b ≠ v.ownBlock
def OwnX {α : Type} (base : Nat) (e : TypeId) (n : Nat) (dec : (Nat → Prop) → World → List Value → α → Prop) (w : World) (v : Value) (xs : List α) : Prop :=
  Own base e n (dec (Rg base w v)) w v xs
theorem OwnX.nil {α : Type} (base : Nat) (e : TypeId) (n : Nat) (dec : (Nat → Prop) → World → List Value → α → Prop) (w : World) : OwnX base e n dec w (.slice none 0 0) ([] : List α) := Own.nil _ _ _ _ _
theorem Own.dmono {α : Type} {base : Nat} {e : TypeId} {n : Nat} {d d' : World → List Value → α → Prop} {w : World} {v : Value} {xs : List α} (hd : ∀ cs x, d w cs x → d' w cs x) (h : Own base e n d w v xs) : Own base e n d' w v xs := by
  obtain ⟨cells, ho, h1, h2⟩ := h
  exact ⟨cells, ho, h1, fun i hi => hd _ _ (h2 i hi)⟩
theorem OwnX.below {α : Type} {base : Nat} {e : TypeId} {n : Nat} {dec : (Nat → Prop) → World → List Value → α → Prop} (F : Fam dec) {w w' : World} {v : Value} {xs : List α} (h : OwnX base e n dec w v xs) (hb : Below w.heap.size w w') : OwnX base e n dec w' v xs :=
  Own.dmono (fun _ _ hd => F.mono (fun _ hb' => ⟨hb'.1, Nat.lt_of_lt_of_le hb'.2.1 hb.size, hb'.2.2⟩) hd) (Own.below (F.stable _) h hb)
theorem OwnX.shape {α : Type} {base : Nat} {e : TypeId} {n : Nat} {dec : (Nat → Prop) → World → List Value → α → Prop} {w : World} {v : Value} {xs : List α} (h : OwnX base e n dec w v xs) : ∃ a cap, v = .slice a xs.length cap := Own.shape h
def Span (lo hi : Nat) : Nat → Prop := fun b => lo ≤ b ∧ b < hi
theorem OwnX.rsl {α : Type} {base : Nat} {e : TypeId} {n : Nat} {dec : (Nat → Prop) → World → List Value → α → Prop} (F : Fam dec) {w : World} {v : Value} {xs : List α} (hn : 0 < n) (h : OwnX base e n dec w v xs) (hl : xs.length ≤ 140737488355328) :
    RSl (Span base w.heap.size) n (dec (Span base w.heap.size)) w v xs := by
  have h1 : RSl (From base) n (dec (Span base w.heap.size)) w v xs := Own.rsl (Own.dmono (fun _ _ hd => F.mono (fun b hb => ⟨hb.1, hb.2.1⟩) hd) h) hl
  exact RSl.mono (fun _ _ _ h => h) (fun b hb => ⟨hb.1, hb.2⟩) (RSl.cut hn (fun _ _ h => h) h1)

theorem OwnX.wsl {α : Type} {base : Nat} {e : TypeId} {n : Nat} {dec : (Nat → Prop) → World → List Value → α → Prop} (F : Fam dec) {w : World} {v : Value} {xs : List α} (hn : 0 < n) (h : OwnX base e n dec w v xs) (hl : xs.length ≤ 140737488355328) :
    WSl (Span base w.heap.size) n (dec (Span base w.heap.size)) w v xs := ⟨OwnX.rsl F hn h hl, (Own.wsl (Own.dmono (fun _ _ hd => F.mono (fun _ hb => ⟨hb.1, hb.2.1⟩) hd) h : Own base e n (dec (Span base w.heap.size)) w v xs) hl).2⟩
/-- A store below the base leaves an owned row owned. -/
theorem OwnX.setCell {α : Type} {base : Nat} {e : TypeId} {n : Nat} {dec : (Nat → Prop) → World → List Value → α → Prop} (F : Fam dec) {w : World} {v : Value} {xs : List α} (h : OwnX base e n dec w v xs) {p : Addr} (hp : p.block < base) (u : Value) : OwnX base e n dec (w.setCell p u) v xs := by
  obtain ⟨cells, ho, hd⟩ := h
  refine ⟨cells, ownsRow_setCell_below ho hp u, ?_⟩
  refine ⟨hd.1, fun i hi => F.mono (fun b hb => ⟨hb.1, by simpa [World.setCell] using hb.2.1, hb.2.2⟩) (F.stable _ _ _ _ _ ((Same.refl _ w).setCell (fun hb => by have := hb.1; omega) u) (hd.2 i hi))⟩
theorem heap_setCell_at {w : World} {g o : Nat} {cs : Array Value} {e : TypeId} {fr : Nat × Nat} (h : w.heap[g]? = some (.cells cs e fr)) (u : Value) : (w.setCell ⟨g, o, none⟩ u).heap[g]? = some (.cells (cs.setIfInBounds o u) e fr) := by
  simp [World.setCell, Array.getElem?_modify, h]
theorem size_setCell' (w : World) (p : Addr) (u : Value) : (w.setCell p u).heap.size = w.heap.size := by simp [World.setCell]

theorem not_span_lo {lo hi g : Nat} (h : g < lo) : ¬ Span lo hi g := fun k => Nat.lt_irrefl _ (Nat.lt_of_lt_of_le h k.1)
theorem not_span_hi {lo hi g : Nat} (h : hi ≤ g) : ¬ Span lo hi g := fun k => Nat.lt_irrefl _ (Nat.lt_of_lt_of_le k.2 h)
theorem below_new (w : World) (o : Obj) : Below w.heap.size w (w.alloc o) := (Below.refl _ _).alloc (Nat.le_refl _) _
theorem keep_box {w w' : World} {g : Nat} {o : Obj} (hb : Below w.heap.size w w') (h : w.heap[g]? = some o) : w'.heap[g]? = some o := (hb.block g (size_of_box h)).trans h
section
variable {P : Program} (w : World)
/-- append(own row, one new element): the element's cells lie in a block just built, what they lead to lies apart from the row. -/
theorem wp_appX {α : Type} {z : Value} {size bytes : Nat} {o : Oper} {a : Act} {K : Act → World → Prop} {Q : Exit → Act → World → Prop} {e t : TypeId} (hinfo : (P.info? e).map (fun i => (i.zero, i.size, i.bytes)) = some (some z, size, bytes))
    {s x : Operand} (ho : o.op = .call { callee := .builtin .append, args := #[s, x], argTypes := #[t, t] }) (ht : P.underlying t = some (.slice e))
    (hzs : z.cells.size = size ∧ 0 < size ∧ 0 < bytes) {dec : (Nat → Prop) → World → List Value → α → Prop} (F : Fam dec) (base : Nat)
    {v : Value} {xs : List α} (hown : OwnX base e size dec w v xs) (hs : a.eval s = v) {g : Nat} {cs : List Value} {y : α} (hg : w.heap[g]? = some (.cells cs.toArray e (0, 0))) (hl : cs.length = size) (hy : dec (Rg base w v) w cs y)
    (hx : a.eval x = .slice (some ⟨g, 0, none⟩) 1 1)
    (h63 : (xs.length + 1) * bytes ≤ 140737488355328) (hbase : base ≤ w.heap.size)
    (h : ∀ a' n' c' w', w.grownBy w' v.ownBlock → OwnX base e size dec w' (.slice a' n' c') (xs ++ [y]) →
      K (a.put o.dst (.slice a' n' c')) w') : o.wp P a w K Q := by
  refine wp_app w hinfo ho ht hzs (F.one (Rg base w v)) (F.stable (Rg base w v)) base hown hs (RSl.built (lo := 0) (Nat.zero_le _) hg hl hy) hx (by simpa using h63) hbase ?_
  intro a' c' w' hgr hat hO
  refine h a' _ c' w' hgr ?_
  have hO' := hO (.of_grown hgr (fun b hb => hb.2.2))
  refine Own.dmono (fun cs x hd => F.mono (fun b hb => ⟨hb.1, Nat.lt_of_lt_of_le hb.2.1 hgr.size, ?_⟩) hd) hO'
  rcases hat with e | e
  · rw [e]; exact hb.2.2
  · rw [e]; have := hb.2.1; intro h; injection h with h; omega
theorem wpList_appX {α : Type} {z : Value} {size bytes : Nat} {ops : Array Oper} {rest : List Oper} {o : Oper} {a : Act} {Q : Exit → Act → World → Prop} {e t : TypeId} (hinfo : (P.info? e).map (fun i => (i.zero, i.size, i.bytes)) = some (some z, size, bytes))
    (hgd : o.guard = none) {s x : Operand} (ho : o.op = .call { callee := .builtin .append, args := #[s, x], argTypes := #[t, t] }) (ht : P.underlying t = some (.slice e))
    (hzs : z.cells.size = size ∧ 0 < size ∧ 0 < bytes) {dec : (Nat → Prop) → World → List Value → α → Prop} (F : Fam dec) (base : Nat)
    {v : Value} {xs : List α} (hown : OwnX base e size dec w v xs) (hs : a.eval s = v) {g : Nat} {cs : List Value} {y : α} (hg : w.heap[g]? = some (.cells cs.toArray e (0, 0))) (hl : cs.length = size) (hy : dec (Rg base w v) w cs y)
    (hx : a.eval x = .slice (some ⟨g, 0, none⟩) 1 1)
    (h63 : (xs.length + 1) * bytes ≤ 140737488355328) (hbase : base ≤ w.heap.size)
    (h : ∀ a' n' c' w', w.grownBy w' v.ownBlock → OwnX base e size dec w' (.slice a' n' c') (xs ++ [y]) →
      wpList P ops Q rest (a.put o.dst (.slice a' n' c')) w') : wpList P ops Q (o :: rest) a w :=
  wpList_plain hgd fun _ hK => wp_appX w hinfo ho ht hzs F base hown hs hg hl hy hx h63 hbase fun a' n' c' w' h1 h2 => hK _ _ (h a' n' c' w' h1 h2)
theorem step_appX {α : Type} {z : Value} {size bytes : Nat} {ops : Array Oper} {o : Oper} {a : Act} {K : Act → World → Prop} {Q : Exit → Act → World → Prop} {E : Prop} {e t : TypeId} (hinfo : (P.info? e).map (fun i => (i.zero, i.size, i.bytes)) = some (some z, size, bytes))
    (hgd : o.guard = none) {s x : Operand} (ho : o.op = .call { callee := .builtin .append, args := #[s, x], argTypes := #[t, t] }) (ht : P.underlying t = some (.slice e))
    (hzs : z.cells.size = size ∧ 0 < size ∧ 0 < bytes) {dec : (Nat → Prop) → World → List Value → α → Prop} (F : Fam dec) (base : Nat)
    {v : Value} {xs : List α} (hown : OwnX base e size dec w v xs) (hs : a.eval s = v) {g : Nat} {cs : List Value} {y : α} (hg : w.heap[g]? = some (.cells cs.toArray e (0, 0))) (hl : cs.length = size) (hy : dec (Rg base w v) w cs y)
    (hx : a.eval x = .slice (some ⟨g, 0, none⟩) 1 1)
    (h63 : (xs.length + 1) * bytes ≤ 140737488355328) (hbase : base ≤ w.heap.size)
    (h : ∀ a' n' c' w', w.grownBy w' v.ownBlock → OwnX base e size dec w' (.slice a' n' c') (xs ++ [y]) →
      K (a.put o.dst (.slice a' n' c')) w') :
    if Region.wanted o (yielded ops a.tmps) = true then Oper.wp P o a w K Q else E := by
  have hw : Region.wanted o (yielded ops a.tmps) = true := by simp [Region.wanted, hgd]
  rw [if_pos hw]
  exact wp_appX w hinfo ho ht hzs F base hown hs hg hl hy hx h63 hbase h
end
end Go.Proofs.Ytkjgddcjhikdgaa
