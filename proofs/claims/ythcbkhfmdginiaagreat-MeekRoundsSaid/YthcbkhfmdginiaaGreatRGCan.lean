/- Texts of one claim,put together: Slot,FitC,Cmp,Map,ChkS,Fnd,RecoS. -/
import Derived.Test.YthcbkhfmdginiaaGreatRGPut
import Derived.Test.YthcbkhfmdginiaaGreatRGSame
import Derived.Test.YthcbkhfmdginiaaGreatRGFoot
import Derived.Laws.StructEq
import Derived.Deep.RegionHeld3
import Derived.Maps.OwnOps
import Derived.Maps.OwnSet
import Derived.Maps.Views

namespace Go.Proofs.YthcbkhfmdginiaaGreat
section
open Go Go.RowKit Go.Shelf

structure Slot where
 name : ByteArray
 many : Int
structure Place where
 batch : Int
 place : Int
def dSlot (_ : World) (cs : List Value) (x : Slot) : Prop := cs = [.string x.name,.int .i64 x.many] ∧ x.name.size ≤ 140737488355328 ∧ (Lit.int .i64 x.many).wf = true
def dPlace (_ : World) (cs : List Value) (x : Place) : Prop := cs = [.int .i64 x.batch,.int .i64 x.place] ∧ (Lit.int .i64 x.batch).wf = true ∧ (Lit.int .i64 x.place).wf = true
theorem dSlot.stable (S : Nat → Prop) : Stable S dSlot := fun _ _ _ _ _ h => h
theorem dPlace.stable (S : Nat → Prop) : Stable S dPlace := fun _ _ _ _ _ h => h
theorem dSlot.one : OneC dSlot := by
 intro w cs x h u hu;obtain ⟨rfl,_⟩ := h;simp at hu;rcases hu with rfl | rfl <;> rfl
theorem dPlace.one : OneC dPlace := by
 intro w cs x h u hu;obtain ⟨rfl,_⟩ := h;simp at hu;rcases hu with rfl | rfl <;> rfl
theorem dSlot.open {w : World} {c d : Value} {x : Slot} (h : dSlot w [c,d] x) : (c = .string x.name ∧ d = .int .i64 x.many) ∧ x.name.size ≤ 140737488355328 ∧ (Lit.int .i64 x.many).wf = true := by simpa [dSlot] using h
theorem dPlace.open {w : World} {c d : Value} {x : Place} (h : dPlace w [c,d] x) : (c = .int .i64 x.batch ∧ d = .int .i64 x.place) ∧ (Lit.int .i64 x.batch).wf = true ∧ (Lit.int .i64 x.place).wf = true := by simpa [dPlace] using h
end

section
open Go Go.RowKit Go.Shelf

theorem Own.rebase {α : Type} {lo hi : Nat} {e : TypeId} {n : Nat} {dec : World → List Value → α → Prop} {w : World} {v : Value} {xs : List α} (h : Own hi e n dec w v xs) (hl : lo ≤ hi) : Own lo e n dec w v xs := by
 obtain ⟨cells,ho,hd⟩ := h
 refine ⟨cells,⟨ho.1,?_⟩,hd⟩
 rcases ho.2 with h0 | ⟨g,cap,cur,h1,h2,h3⟩
 ·exact .inl h0
 ·exact .inr ⟨g,cap,cur,h1,Nat.le_trans hl h2,h3⟩
theorem getD_at {α : Type} {l : List α} {k : Nat} (z : α) (h : k < l.length) : l.getD k z = l[k] := by simp [List.getD,h]

end

section
open Go Go.RowKit Go.Maps

noncomputable def upd (f : Lit → Option Lit) (k d : Lit) : Lit → Option Lit := fun l => @ite _ (l = k) (Classical.propDecidable _) (some d) (f l)
theorem upd_same (f : Lit → Option Lit) (k d : Lit) : upd f k d k = some d := by unfold upd;exact if_pos rfl
theorem upd_other (f : Lit → Option Lit) {k d l : Lit} (h : l ≠ k) : upd f k d l = f l := by unfold upd;exact if_neg h
def MapF (w : World) (P : Program) (k e : TypeId) (b n : Nat) (f : Lit → Option Lit) : Prop :=
 ∃ D : DataW Unit,w.ownsMap P k (plainElem P e) b n D ∧ ∀ kl,(∀ z,D.atKey kl z = match f kl with | some d => .lit d | none => z) ∧ Maps.has D kl = (f kl).isSome
section
variable {P : Program} {w : World} {k e : TypeId} {b n : Nat} {f : Lit → Option Lit}
theorem MapF.made (w : World) (P : Program) (k e : TypeId) : MapF (w.alloc (.map #[] 0)) P k e w.heap.size 0 (fun _ => none) :=
 ⟨_,World.ownsMap_made w P k _,fun _ => ⟨fun _ => rfl,rfl⟩⟩
theorem MapF.kept {w' : World} {row : Option Nat} (h : MapF w P k e b n f) (hg : w.grownBy w' row) (hne : some b ≠ row) : MapF w' P k e b n f := let ⟨D,h1,h2⟩ := h;⟨D,h1.kept hg hne,h2⟩
theorem MapF.lt (h : MapF w P k e b n f) : b < w.heap.size := let ⟨_,h1,_⟩ := h;h1.lt
theorem MapF.below {w' : World} (h : MapF w P k e b n f) (hb : Below w.heap.size w w') : MapF w' P k e b n f := h.kept (qan hb) (by simp)
theorem MapF.setCell (h : MapF w P k e b n f) {a : Addr} (ha : b ≠ a.block) (u : Value) : MapF (w.setCell a u) P k e b n f := let ⟨D,h1,h2⟩ := h;⟨D,h1.setCell ha u,h2⟩
theorem MapF.put {D : DataW Unit} (hD : IsMap D) {kl : Lit} (hk : WideAt.IsKeyLit kl) {d : Lit} (h2 : ∀ kl,(∀ z,D.atKey kl z = match f kl with | some d => .lit d | none => z) ∧ Maps.has D kl = (f kl).isSome) :
  ∀ l,(∀ z,(D.put kl (.lit d)).atKey l z = match upd f kl d l with | some d => .lit d | none => z) ∧ Maps.has (D.put kl (.lit d)) l = (upd f kl d l).isSome := by
 intro l
 by_cases h : l = kl
 ·subst h
  rw [upd_same]
  exact ⟨fun z => atKey_put_same hD hk _ z,has_put_same hD hk _⟩
 ·rw [upd_other f h]
  exact ⟨fun z => (atKey_put_other h _ z).trans ((h2 l).1 z),(has_put_other h _).trans (h2 l).2⟩
end
end

section
open Go Go.RowKit Go.Shelf Go.Maps Go.WideMaps

theorem range_bad {p : Nat → Bool} {n k : Nat} (hk : k < n) (h : p k = false) : (List.range n).all p = false := by
 cases hb : (List.range n).all p
 ·rfl
 ·rw [List.all_eq_true] at hb
  rw [hb k (List.mem_range.2 hk)] at h
  cases h
end

section
open Go Go.RowKit Go.Shelf Go.Maps

structure Fnd where
 kind : Int
 name : ByteArray
 want : Int
 has : Int
def dFnd (_ : World) (cs : List Value) (x : Fnd) : Prop := cs = [.int .u8 x.kind,.string x.name,.int .i64 x.want,.int .i64 x.has] ∧ (Lit.int .u8 x.kind).wf = true ∧ x.name.size ≤ 140737488355328 ∧ (Lit.int .i64 x.want).wf = true ∧ (Lit.int .i64 x.has).wf = true
theorem dFnd.stable (S : Nat → Prop) : Stable S dFnd := fun _ _ _ _ _ h => h
theorem dFnd.one : OneC dFnd := by
 intro w cs x h u hu;obtain ⟨rfl,_⟩ := h;simp at hu;rcases hu with rfl | rfl | rfl | rfl <;> rfl
theorem dFnd.open {w : World} {c d e f : Value} {x : Fnd} (h : dFnd w [c,d,e,f] x) : (c = .int .u8 x.kind ∧ d = .string x.name ∧ e = .int .i64 x.want ∧ f = .int .i64 x.has) ∧ (Lit.int .u8 x.kind).wf = true ∧ x.name.size ≤ 140737488355328 ∧ (Lit.int .i64 x.want).wf = true ∧ (Lit.int .i64 x.has).wf = true := by simpa [dFnd] using h
def PutFrame (g base : Nat) (w w' : World) : Prop := w'.os = w.os ∧ w'.tape = w.tape ∧ w'.output = w.output ∧ w.heap.size ≤ w'.heap.size ∧ ∀ b,b < base → b ≠ g → w'.heap[b]? = w.heap[b]?
theorem MapF.block {w w' : World} {P : Program} {k e : TypeId} {b n : Nat} {f : Lit → Option Lit} (h : MapF w P k e b n f) (hb : w'.heap[b]? = w.heap[b]?) : MapF w' P k e b n f := by
 obtain ⟨D,⟨es,clock,h1,h2⟩,h3⟩ := h
 exact ⟨D,⟨es,clock,hb.trans h1,h2⟩,h3⟩
theorem PutFrame.below {g base B : Nat} {w0 w w' : World} (h : PutFrame g base w w') (hB : B ≤ g) (hg : g < base) (hb : Below B w0 w) : Below B w0 w' :=
 ⟨h.1.trans hb.os,h.2.1.trans hb.tape,h.2.2.1.trans hb.output,Nat.le_trans hb.size h.2.2.2.1,fun k hk => (h.2.2.2.2 k (by omega) (by omega)).trans (hb.block k hk)⟩
end
end Go.Proofs.YthcbkhfmdginiaaGreat
