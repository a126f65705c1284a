/- What values in memory read as: slices, ballots, batches; which memory they touch; that they read the same in a later world. Plain definitions and lemmas; no program. -/
import Derived.Below
namespace Go.Proofs.Ytkjgddcjhikdgaa
open Go Go.RowKit

/-- w' agrees with w on the blocks of S. -/
def Same (S : Nat → Prop) (w w' : World) : Prop := ∀ b, b < w.heap.size → S b → w'.heap[b]? = w.heap[b]?
def Any : Nat → Prop := fun _ => True
/-- Blocks from lo on. -/
def From (lo : Nat) : Nat → Prop := fun b => lo ≤ b

theorem Same.of_below {S : Nat → Prop} {w w' : World} (h : Below w.heap.size w w') : Same S w w' := fun b hb _ => h.block b hb
theorem Same.refl (S : Nat → Prop) (w : World) : Same S w w := fun _ _ _ => rfl
theorem Same.mono {S T : Nat → Prop} {w w' : World} (h : Same S w w') (hT : ∀ b, T b → S b) : Same T w w' := fun b hb hs => h b hb (hT b hs)
theorem lt_of_cell {w : World} {b o : Nat} {v : Value} (h : w.cell? ⟨b, o, none⟩ = some v) : b < w.heap.size := World.block_lt_of_cell? w _ h
theorem Same.cell {S : Nat → Prop} {w w' : World} (h : Same S w w') {b o : Nat} {v : Value} (hS : S b) (hc : w.cell? ⟨b, o, none⟩ = some v) :
    w'.cell? ⟨b, o, none⟩ = some v := (World.cell?_of_block (w := w) (h b (lt_of_cell hc) hS)).trans hc

/-- The list of cells, n to an element, decodes as xs. -/
def Dec {α : Type} (n : Nat) (dec : World → List Value → α → Prop) (w : World) (cells : List Value) (xs : List α) : Prop :=
  cells.length = xs.length * n ∧ ∀ i (h : i < xs.length), dec w ((cells.drop (i * n)).take n) xs[i]

/-- v is a slice that reads as xs: its elements have n cells each, decoded by dec; the elements lie in a block of S. -/
def RSl {α : Type} (S : Nat → Prop) (n : Nat) (dec : World → List Value → α → Prop) (w : World) (v : Value) (xs : List α) : Prop :=
  ∃ a cap cells, v = .slice a xs.length cap ∧ xs.length ≤ cap ∧ xs.length ≤ 140737488355328 ∧ Dec n dec w cells xs ∧
    (xs = [] ∨ ∃ b off, a = some ⟨b, off, none⟩ ∧ S b ∧ ∀ j u, cells[j]? = some u → w.cell? ⟨b, off + j, none⟩ = some u)

def Stable {α : Type} (S : Nat → Prop) (dec : World → List Value → α → Prop) : Prop :=
  ∀ w w' cs x, Same S w w' → dec w cs x → dec w' cs x

theorem Dec.same {α : Type} {S : Nat → Prop} {n : Nat} {dec : World → List Value → α → Prop} (hst : Stable S dec) {w w' : World} {cells : List Value} {xs : List α}
    (hs : Same S w w') (h : Dec n dec w cells xs) : Dec n dec w' cells xs := ⟨h.1, fun i hi => hst _ _ _ _ hs (h.2 i hi)⟩

theorem RSl.same {α : Type} {S : Nat → Prop} {n : Nat} {dec : World → List Value → α → Prop} (hst : Stable S dec) {w w' : World} {v : Value} {xs : List α}
    (hs : Same S w w') (h : RSl S n dec w v xs) : RSl S n dec w' v xs := by
  obtain ⟨a, cap, cells, hv, h1, h2, h3, h4⟩ := h
  refine ⟨a, cap, cells, hv, h1, h2, h3.same hst hs, ?_⟩
  rcases h4 with h4 | ⟨b, off, ha, hS, hc⟩
  · exact .inl h4
  · exact .inr ⟨b, off, ha, hS, fun j u hu => hs.cell hS (hc j u hu)⟩

theorem RSl.mono {α : Type} {S T : Nat → Prop} {n : Nat} {dec dec' : World → List Value → α → Prop} (hd : ∀ w cs x, dec w cs x → dec' w cs x) (hT : ∀ b, S b → T b)
    {w : World} {v : Value} {xs : List α} (h : RSl S n dec w v xs) : RSl T n dec' w v xs := by
  obtain ⟨a, cap, cells, hv, h1, h2, h3, h4⟩ := h
  refine ⟨a, cap, cells, hv, h1, h2, ⟨h3.1, fun i hi => hd _ _ _ (h3.2 i hi)⟩, ?_⟩
  rcases h4 with h4 | ⟨b, off, ha, hS, hc⟩
  · exact .inl h4
  · exact .inr ⟨b, off, ha, hT b hS, hc⟩

theorem RSl.nil {α : Type} {S : Nat → Prop} {n : Nat} {dec : World → List Value → α → Prop} {w : World} : RSl S n dec w (.slice none 0 0) ([] : List α) :=
  ⟨none, 0, [], rfl, by simp, by simp, ⟨by simp, fun i hi => by simp at hi⟩, .inl rfl⟩

/-- One cell per element: element k. -/
theorem RSl.get1 {α : Type} {S : Nat → Prop} {dec : World → List Value → α → Prop} {w : World} {v : Value} {xs : List α} (h : RSl S 1 dec w v xs) (k : Nat) (hk : k < xs.length) :
    ∃ b off cap c, v = .slice (some ⟨b, off, none⟩) xs.length cap ∧ S b ∧ w.cell? ⟨b, off + k, none⟩ = some c ∧ dec w [c] xs[k] := by
  obtain ⟨a, cap, cells, rfl, _, _, hD, h4⟩ := h
  rcases h4 with h4 | ⟨b, off, rfl, hS, hc⟩
  · subst h4; simp at hk
  have hl : k < cells.length := by rw [hD.1]; omega
  refine ⟨b, off, cap, cells[k], rfl, hS, hc k _ (by simp [hl]), ?_⟩
  have := hD.2 k hk
  rwa [Nat.mul_one, List.drop_eq_getElem_cons hl, List.take_succ_cons, List.take_zero] at this

/-- Two cells per element: element k. -/
theorem RSl.get2 {α : Type} {S : Nat → Prop} {dec : World → List Value → α → Prop} {w : World} {v : Value} {xs : List α} (h : RSl S 2 dec w v xs) (k : Nat) (hk : k < xs.length) :
    ∃ b off cap c d, v = .slice (some ⟨b, off, none⟩) xs.length cap ∧ S b ∧ w.cell? ⟨b, off + k * 2, none⟩ = some c ∧ w.cell? ⟨b, off + k * 2 + 1, none⟩ = some d ∧ dec w [c, d] xs[k] := by
  obtain ⟨a, cap, cells, rfl, _, _, hD, h4⟩ := h
  rcases h4 with h4 | ⟨b, off, rfl, hS, hc⟩
  · subst h4; simp at hk
  have hl : k * 2 + 1 < cells.length := by rw [hD.1]; omega
  refine ⟨b, off, cap, cells[k * 2], cells[k * 2 + 1], rfl, hS, hc (k * 2) _ (List.getElem?_eq_getElem _), hc (k * 2 + 1) _ (List.getElem?_eq_getElem _), ?_⟩
  have := hD.2 k hk
  rwa [List.drop_eq_getElem_cons (by omega), List.drop_eq_getElem_cons hl, List.take_succ_cons, List.take_succ_cons, List.take_zero] at this

theorem RSl.shape {α : Type} {S : Nat → Prop} {n : Nat} {dec : World → List Value → α → Prop} {w : World} {v : Value} {xs : List α} (h : RSl S n dec w v xs) :
    ∃ a cap, v = .slice a xs.length cap ∧ xs.length ≤ cap ∧ xs.length ≤ 140737488355328 := by
  obtain ⟨a, cap, _, hv, h1, h2, _⟩ := h; exact ⟨a, cap, hv, h1, h2⟩
theorem RSl.at1 {α : Type} {S : Nat → Prop} {dec : World → List Value → α → Prop} {w : World} {a : Option Addr} {n cap : Nat} {xs : List α} (h : RSl S 1 dec w (.slice a n cap) xs) (k : Nat) (hk : k < xs.length) :
    ∃ b off c, a = some ⟨b, off, none⟩ ∧ S b ∧ b < w.heap.size ∧ w.cell? ⟨b, off + k, none⟩ = some c ∧ dec w [c] xs[k] := by
  obtain ⟨b, off, cap', c, hv, hS, hc, hd⟩ := h.get1 k hk
  simp only [Value.slice.injEq] at hv
  exact ⟨b, off, c, hv.1, hS, lt_of_cell hc, hc, hd⟩
theorem RSl.at2 {α : Type} {S : Nat → Prop} {dec : World → List Value → α → Prop} {w : World} {a : Option Addr} {n cap : Nat} {xs : List α} (h : RSl S 2 dec w (.slice a n cap) xs) (k : Nat) (hk : k < xs.length) :
    ∃ b off c d, a = some ⟨b, off, none⟩ ∧ S b ∧ b < w.heap.size ∧ w.cell? ⟨b, off + k * 2, none⟩ = some c ∧ w.cell? ⟨b, off + k * 2 + 1, none⟩ = some d ∧ dec w [c, d] xs[k] := by
  obtain ⟨b, off, cap', c, d, hv, hS, hc, hd, hx⟩ := h.get2 k hk
  simp only [Value.slice.injEq] at hv
  exact ⟨b, off, c, d, hv.1, hS, lt_of_cell hc, hc, hd, hx⟩

/-- An integer of a kind. -/
def dInt (k : IntKind) (_ : World) (cs : List Value) (x : Int) : Prop := cs = [.int k x] ∧ (Lit.int k x).wf = true
structure Blt where
  kind : Int
  marks : List Int
structure Btc where
  name : ByteArray
  blts : List Blt
def RInts (S : Nat → Prop) (w : World) (v : Value) (xs : List Int) : Prop := RSl S 1 (dInt .i64) w v xs
def dBlt (S : Nat → Prop) (w : World) (cs : List Value) (x : Blt) : Prop :=
  ∃ v, cs = [.int .u8 x.kind, v] ∧ 0 ≤ x.kind ∧ x.kind ≤ 255 ∧ RInts S w v x.marks
def RBlts (S : Nat → Prop) (w : World) (v : Value) (xs : List Blt) : Prop := RSl S 2 (dBlt S) w v xs
def dBtc (S : Nat → Prop) (w : World) (cs : List Value) (x : Btc) : Prop :=
  ∃ v, cs = [.string x.name, v] ∧ x.name.size ≤ 140737488355328 ∧ RBlts S w v x.blts
def RBtcs (S : Nat → Prop) (w : World) (v : Value) (xs : List Btc) : Prop := RSl S 2 (dBtc S) w v xs

theorem dInt.stable (S : Nat → Prop) (k : IntKind) : Stable S (dInt k) := fun _ _ _ _ _ h => h
theorem RInts.same {S : Nat → Prop} {w w' : World} {v : Value} {xs : List Int} (hs : Same S w w') (h : RInts S w v xs) : RInts S w' v xs := RSl.same (dInt.stable S _) hs h
theorem dBlt.stable (S : Nat → Prop) : Stable S (dBlt S) := fun _ _ _ _ hs ⟨v, h1, h2, h3, h4⟩ => ⟨v, h1, h2, h3, h4.same hs⟩
theorem RBlts.same {S : Nat → Prop} {w w' : World} {v : Value} {xs : List Blt} (hs : Same S w w') (h : RBlts S w v xs) : RBlts S w' v xs := RSl.same (dBlt.stable S) hs h
theorem dBtc.stable (S : Nat → Prop) : Stable S (dBtc S) := fun _ _ _ _ hs ⟨v, h1, h2, h3⟩ => ⟨v, h1, h2, h3.same hs⟩
theorem RBtcs.same {S : Nat → Prop} {w w' : World} {v : Value} {xs : List Btc} (hs : Same S w w') (h : RBtcs S w v xs) : RBtcs S w' v xs := RSl.same (dBtc.stable S) hs h
theorem RInts.mono {S T : Nat → Prop} {w : World} {v : Value} {xs : List Int} (hT : ∀ b, S b → T b) (h : RInts S w v xs) : RInts T w v xs := RSl.mono (fun _ _ _ h => h) hT h
theorem dBlt.mono {S T : Nat → Prop} {w : World} {cs : List Value} {x : Blt} (hT : ∀ b, S b → T b) (h : dBlt S w cs x) : dBlt T w cs x :=
  let ⟨v, h1, h2, h3, h4⟩ := h; ⟨v, h1, h2, h3, h4.mono hT⟩
theorem RBlts.mono {S T : Nat → Prop} {w : World} {v : Value} {xs : List Blt} (hT : ∀ b, S b → T b) (h : RBlts S w v xs) : RBlts T w v xs := RSl.mono (fun _ _ _ h => h.mono hT) hT h
theorem dBtc.mono {S T : Nat → Prop} {w : World} {cs : List Value} {x : Btc} (hT : ∀ b, S b → T b) (h : dBtc S w cs x) : dBtc T w cs x :=
  let ⟨v, h1, h2, h3⟩ := h; ⟨v, h1, h2, h3.mono hT⟩
theorem RBtcs.mono {S T : Nat → Prop} {w : World} {v : Value} {xs : List Btc} (hT : ∀ b, S b → T b) (h : RBtcs S w v xs) : RBtcs T w v xs := RSl.mono (fun _ _ _ h => h.mono hT) hT h

/-- The blocks of S below n. -/
def Cut (S : Nat → Prop) (n : Nat) : Nat → Prop := fun b => S b ∧ b < n
theorem Cut.sub {S : Nat → Prop} {n b : Nat} (h : Cut S n b) : S b := h.1
/-- What is read lies below the heap's size. -/
theorem RSl.cut {α : Type} {S : Nat → Prop} {n : Nat} {dec dec' : World → List Value → α → Prop} {w : World} {v : Value} {xs : List α} (hn : 0 < n) (hd : ∀ cs x, dec w cs x → dec' w cs x) (h : RSl S n dec w v xs) :
    RSl (Cut S w.heap.size) n dec' w v xs := by
  obtain ⟨a, cap, cells, hv, h1, h2, h3, h4⟩ := h
  refine ⟨a, cap, cells, hv, h1, h2, ⟨h3.1, fun i hi => hd _ _ (h3.2 i hi)⟩, ?_⟩
  rcases h4 with h4 | ⟨b, off, ha, hS, hc⟩
  · exact .inl h4
  · rcases Nat.eq_zero_or_pos xs.length with h0 | h0
    · exact .inl (List.eq_nil_of_length_eq_zero h0)
    · have hl : 0 < cells.length := by rw [h3.1]; exact Nat.mul_pos h0 hn
      exact .inr ⟨b, off, ha, ⟨hS, lt_of_cell (hc 0 _ (List.getElem?_eq_getElem hl))⟩, hc⟩
theorem RInts.cut {S : Nat → Prop} {w : World} {v : Value} {xs : List Int} (h : RInts S w v xs) : RInts (Cut S w.heap.size) w v xs := RSl.cut (by omega) (fun _ _ h => h) h
theorem dBlt.cut {S : Nat → Prop} {w : World} {cs : List Value} {x : Blt} (h : dBlt S w cs x) : dBlt (Cut S w.heap.size) w cs x := let ⟨v, h1, h2, h3, h4⟩ := h; ⟨v, h1, h2, h3, h4.cut⟩
theorem RBlts.cut {S : Nat → Prop} {w : World} {v : Value} {xs : List Blt} (h : RBlts S w v xs) : RBlts (Cut S w.heap.size) w v xs := RSl.cut (by omega) (fun _ _ h => h.cut) h
theorem dBtc.cut {S : Nat → Prop} {w : World} {cs : List Value} {x : Btc} (h : dBtc S w cs x) : dBtc (Cut S w.heap.size) w cs x := let ⟨v, h1, h2, h3⟩ := h; ⟨v, h1, h2, h3.cut⟩
theorem RBtcs.cut {S : Nat → Prop} {w : World} {v : Value} {xs : List Btc} (h : RBtcs S w v xs) : RBtcs (Cut S w.heap.size) w v xs := RSl.cut (by omega) (fun _ _ h => h.cut) h
/-- Behind 'grownBy': the blocks below n, which is not the row's number. -/
theorem Same.of_grown {S : Nat → Prop} {w w' : World} {row : Option Nat} (hg : w.grownBy w' row) (hr : ∀ b, S b → some b ≠ row) : Same S w w' := fun b hb hs => hg.block b hb (hr b hs)
theorem Same.setCell {S : Nat → Prop} {a w : World} (h : Same S a w) {p : Addr} (hp : ¬ S p.block) (u : Value) : Same S a (w.setCell p u) :=
  fun b hb hs => (Below.heap_setCell w p u b (fun e => hp (e ▸ hs))).trans (h b hb hs)
theorem Same.trans {S : Nat → Prop} {a b c : World} (h : Same S a b) (k : Same S b c) (hs : a.heap.size ≤ b.heap.size) : Same S a c :=
  fun i hi hS => (k i (Nat.lt_of_lt_of_le hi hs) hS).trans (h i hi hS)

theorem dInt.open {k : IntKind} {w : World} {c : Value} {x : Int} (h : dInt k w [c] x) : c = .int k x ∧ (Lit.int k x).wf = true := by
  simpa [dInt] using h
theorem dBlt.open {S : Nat → Prop} {w : World} {c d : Value} {x : Blt} (h : dBlt S w [c, d] x) :
    ∃ a cap, c = .int .u8 x.kind ∧ d = .slice a x.marks.length cap ∧ x.marks.length ≤ 140737488355328 ∧ 0 ≤ x.kind ∧ x.kind ≤ 255 ∧ RInts S w (.slice a x.marks.length cap) x.marks := by
  obtain ⟨v, h1, h2, h3, h4⟩ := h
  simp only [List.cons.injEq, and_true] at h1
  obtain ⟨rfl, rfl⟩ := h1
  obtain ⟨a, cap, hv, _, hl⟩ := RSl.shape h4
  exact ⟨a, cap, rfl, hv, hl, h2, h3, hv ▸ h4⟩
theorem dBtc.open {S : Nat → Prop} {w : World} {c d : Value} {x : Btc} (h : dBtc S w [c, d] x) :
    ∃ a cap, c = .string x.name ∧ d = .slice a x.blts.length cap ∧ x.blts.length ≤ 140737488355328 ∧ x.name.size ≤ 140737488355328 ∧ RBlts S w (.slice a x.blts.length cap) x.blts := by
  obtain ⟨v, h1, h2, h4⟩ := h
  simp only [List.cons.injEq, and_true] at h1
  obtain ⟨rfl, rfl⟩ := h1
  obtain ⟨a, cap, hv, _, hl⟩ := RSl.shape h4
  exact ⟨a, cap, rfl, hv, hl, h2, hv ▸ h4⟩
/-- Ballots given by value. -/
def VBlt (S : Nat → Prop) (w : World) (v : Value) (x : Blt) : Prop := ∃ c d, v = .agg #[c, d] ∧ dBlt S w [c, d] x
theorem VBlt.same {S : Nat → Prop} {w w' : World} {v : Value} {x : Blt} (hs : Same S w w') (h : VBlt S w v x) : VBlt S w' v x :=
  let ⟨c, d, h1, h2⟩ := h; ⟨c, d, h1, dBlt.stable S _ _ _ _ hs h2⟩
theorem VBlt.mono {S T : Nat → Prop} {w : World} {v : Value} {x : Blt} (hT : ∀ b, S b → T b) (h : VBlt S w v x) : VBlt T w v x :=
  let ⟨c, d, h1, h2⟩ := h; ⟨c, d, h1, h2.mono hT⟩
theorem ret_bool {a b : Bool} (h : a = b) : Ending.returned (.bool a) = .returned (.bool b) := by rw [h]
theorem ret_int {k : IntKind} {a b : Int} (h : a = b) : Ending.returned (.int k a) = .returned (.int k b) := by rw [h]

/-- A block of the call's own, in a later world. -/
theorem own_box {B : Nat} {W w1 : World} {g : Nat} {cs : Array Value} {e : TypeId} (hb : Below B W w1) (hg : g < B) (h : W.heap[g]? = some (.cells cs e (0, 0))) :
    w1.heap[g]? = some (.cells cs e (0, 0)) ∧ (∀ i, w1.cell? ⟨g, i, none⟩ = cs[i]?) ∧ (∀ i, w1.frozen? ⟨g, i, none⟩ = false) := by
  have h1 : w1.heap[g]? = some (.cells cs e (0, 0)) := (hb.block g hg).trans h
  exact ⟨h1, fun i => by simp [World.cell?, h1], fun i => by simp [World.frozen?, h1]⟩
theorem size_of_box {W : World} {g : Nat} {o : Obj} (h : W.heap[g]? = some o) : g < W.heap.size := by
  rcases Nat.lt_or_ge g W.heap.size with h' | h'
  · exact h'
  · rw [Array.getElem?_eq_none h'] at h; cases h
theorem box_new (w : World) (o : Obj) : (w.alloc o).heap[w.heap.size]? = some o := by show (w.heap.push o)[w.heap.size]? = some o; simp
theorem box_old {w : World} {g : Nat} {o : Obj} (o' : Obj) (h : w.heap[g]? = some o) : (w.alloc o').heap[g]? = some o := by
  have hg : g < w.heap.size := by
    rcases Nat.lt_or_ge g w.heap.size with h' | h'
    · exact h'
    · rw [Array.getElem?_eq_none h'] at h; cases h
  rw [Below.heap_alloc w o' g hg]; exact h

/-- The cells below a bound read as they did: what the walk uses as a rule. -/
theorem bcell {W w1 : World} (hb : Below W.heap.size W w1) : (∀ b o, b < W.heap.size → w1.cell? ⟨b, o, none⟩ = W.cell? ⟨b, o, none⟩) ∧ (∀ b o, b < W.heap.size → w1.frozen? ⟨b, o, none⟩ = W.frozen? ⟨b, o, none⟩) :=
  ⟨fun b o h => hb.cell (p := ⟨b, o, none⟩) h, fun b o h => hb.frozen (p := ⟨b, o, none⟩) h⟩
end Go.Proofs.Ytkjgddcjhikdgaa
