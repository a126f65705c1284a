/- Texts of one claim, put together: Batch27, Slot, FitC, Cmp, Map, ChkS, Fnd, RecoS, Reco, Alive27. -/
import Derived.Test.YtkjgddcjhikdgaaKGPut
import Derived.Test.YtkjgddcjhikdgaaKGSame
import Derived.Test.YtkjgddcjhikdgaaKGFoot
import Derived.Test.YtkjgddcjhikdgaaKGRat
import Derived.Laws.StructEq
import Derived.Deep.RegionHeld3
import Derived.Maps.OwnOps
import Derived.Maps.OwnSet
import Derived.Maps.Views

/- Batches of blank ballots, and slices over blocks that hold given cells. -/
namespace Go.Proofs.Ytkjgddcjhikdgaa
open Go Go.RowKit Go.Shelf

/-- A slice over a block of its own that holds these cells. -/
theorem RSl.lay {α : Type} {n : Nat} {dec : World → List Value → α → Prop} {w : World} {g : Nat} {cells : List Value} {e : TypeId} {xs : List α} {S : Nat → Prop} (hS : S g) (hg : w.heap[g]? = some (.cells cells.toArray e (0, 0))) (h : Dec n dec w cells xs) (hl : xs.length ≤ 1000000000) :
    RSl S n dec w (.slice (some ⟨g, 0, none⟩) xs.length xs.length) xs := by
  refine ⟨_, xs.length, cells, rfl, Nat.le_refl _, by omega, h, .inr ⟨g, 0, rfl, hS, fun j u hu => ?_⟩⟩
  rw [Nat.zero_add, cell_of_row w g j cells.toArray e (0, 0) hg]
  simpa using hu
end Go.Proofs.Ytkjgddcjhikdgaa

/- Manifests and places: how they read; the contracts of their comparisons, and of both Manifests. -/
namespace Go.Proofs.Ytkjgddcjhikdgaa
open Go Go.RowKit Go.Shelf

structure Slot where
  name : ByteArray
  many : Int
structure Place where
  batch : Int
  place : Int
def dSlot (_ : World) (cs : List Value) (x : Slot) : Prop := cs = [.string x.name, .int .i64 x.many] ∧ x.name.size ≤ 140737488355328 ∧ (Lit.int .i64 x.many).wf = true
def dPlace (_ : World) (cs : List Value) (x : Place) : Prop := cs = [.int .i64 x.batch, .int .i64 x.place] ∧ (Lit.int .i64 x.batch).wf = true ∧ (Lit.int .i64 x.place).wf = true
theorem dSlot.stable (S : Nat → Prop) : Stable S dSlot := fun _ _ _ _ _ h => h
theorem dPlace.stable (S : Nat → Prop) : Stable S dPlace := fun _ _ _ _ _ h => h
theorem dSlot.one : OneC dSlot := by
  intro w cs x h u hu; obtain ⟨rfl, _⟩ := h; simp at hu; rcases hu with rfl | rfl <;> rfl
theorem dPlace.one : OneC dPlace := by
  intro w cs x h u hu; obtain ⟨rfl, _⟩ := h; simp at hu; rcases hu with rfl | rfl <;> rfl
theorem dSlot.open {w : World} {c d : Value} {x : Slot} (h : dSlot w [c, d] x) : (c = .string x.name ∧ d = .int .i64 x.many) ∧ x.name.size ≤ 140737488355328 ∧ (Lit.int .i64 x.many).wf = true := by simpa [dSlot] using h
theorem dPlace.open {w : World} {c d : Value} {x : Place} (h : dPlace w [c, d] x) : (c = .int .i64 x.batch ∧ d = .int .i64 x.place) ∧ (Lit.int .i64 x.batch).wf = true ∧ (Lit.int .i64 x.place).wf = true := by simpa [dPlace] using h
def eqSlot (x y : Slot) : Bool := sameName x.name y.name && decide (x.many = y.many)
def maniL (l : List Btc) : List Slot := l.map fun b => ⟨b.name, (b.blts.length : Int)⟩
end Go.Proofs.Ytkjgddcjhikdgaa

/- The contracts of canvass.fit and of the reference's Fit. -/
namespace Go.Proofs.Ytkjgddcjhikdgaa
open Go Go.RowKit Go.Shelf

/-- The answer of fit, out of the checks' answers and whether the manifests are equal. -/
def fit3 (ra rb : Int) (e : Bool) : Int := if ra = 0 then (if rb = 0 then (if e then 0 else 270) else rb) else ra
def fitI (a b : List Btc) (c kind : Int) : Int := fit3 (recCheck a c kind) (recCheck b c kind) (eqL eqSlot (maniL a) (maniL b))
end Go.Proofs.Ytkjgddcjhikdgaa

/- The places at which two counts differ; the contracts of canvass.Compare and of the reference's Unlike and Compare. -/
namespace Go.Proofs.Ytkjgddcjhikdgaa
open Go Go.RowKit Go.Shelf

def zB : Blt := ⟨0, []⟩
def zC : Btc := ⟨⟨#[]⟩, []⟩
def difRow (i : Nat) (xs ys : List Blt) (n : Nat) : List Place := ((List.range n).filter fun k => !eqBlt (xs.getD k zB) (ys.getD k zB)).map fun (k : Nat) => ⟨(i : Int), (k : Int)⟩
def difAll (a b : List Btc) (n : Nat) : List Place := (List.range n).flatMap fun i => difRow i (a.getD i zC).blts (b.getD i zC).blts (a.getD i zC).blts.length
def placesL (a b : List Btc) : List Place := difAll a b a.length
theorem Own.rebase {α : Type} {lo hi : Nat} {e : TypeId} {n : Nat} {dec : World → List Value → α → Prop} {w : World} {v : Value} {xs : List α} (h : Own hi e n dec w v xs) (hl : lo ≤ hi) : Own lo e n dec w v xs := by
  obtain ⟨cells, ho, hd⟩ := h
  refine ⟨cells, ⟨ho.1, ?_⟩, hd⟩
  rcases ho.2 with h0 | ⟨g, cap, cur, h1, h2, h3⟩
  · exact .inl h0
  · exact .inr ⟨g, cap, cur, h1, Nat.le_trans hl h2, h3⟩
theorem getD_at {α : Type} {l : List α} {k : Nat} (z : α) (h : k < l.length) : l.getD k z = l[k] := by simp [List.getD, h]

/-- What a call of Compare gives. -/
def CmpGives (a b : List Btc) (c kind : Int) (w : World) (e : Ending) (w' : World) : Prop :=
  ∃ v, e = .returned (.tuple #[v, .int .i64 (fitI a b c kind)]) ∧ Own w.heap.size 111 2 dPlace w' v (if fitI a b c kind = 0 then placesL a b else []) ∧ Below w.heap.size w w'
end Go.Proofs.Ytkjgddcjhikdgaa

/- Maps of the call's own, by what they hold at each key; over any program. -/
namespace Go.Proofs.Ytkjgddcjhikdgaa
open Go Go.RowKit Go.Maps

/-- The function, turned at one key. -/
noncomputable def upd (f : Lit → Option Lit) (k d : Lit) : Lit → Option Lit := fun l => @ite _ (l = k) (Classical.propDecidable _) (some d) (f l)
theorem upd_same (f : Lit → Option Lit) (k d : Lit) : upd f k d k = some d := by unfold upd; exact if_pos rfl
theorem upd_other (f : Lit → Option Lit) {k d l : Lit} (h : l ≠ k) : upd f k d l = f l := by unfold upd; exact if_neg h
/-- Block b is a map of at most n entries that holds f. -/
def MapF (w : World) (P : Program) (k e : TypeId) (b n : Nat) (f : Lit → Option Lit) : Prop :=
  ∃ D : DataW Unit, w.ownsMap P k (plainElem P e) b n D ∧ ∀ kl, (∀ z, D.atKey kl z = match f kl with | some d => .lit d | none => z) ∧ Maps.has D kl = (f kl).isSome
section
variable {P : Program} {w : World} {k e : TypeId} {b n : Nat} {f : Lit → Option Lit}
theorem MapF.made (w : World) (P : Program) (k e : TypeId) : MapF (w.alloc (.map #[] 0)) P k e w.heap.size 0 (fun _ => none) :=
  ⟨_, World.ownsMap_made w P k _, fun _ => ⟨fun _ => rfl, rfl⟩⟩
theorem MapF.kept {w' : World} {row : Option Nat} (h : MapF w P k e b n f) (hg : w.grownBy w' row) (hne : some b ≠ row) : MapF w' P k e b n f := let ⟨D, h1, h2⟩ := h; ⟨D, h1.kept hg hne, h2⟩
theorem MapF.lt (h : MapF w P k e b n f) : b < w.heap.size := let ⟨_, h1, _⟩ := h; h1.lt
theorem MapF.below {w' : World} (h : MapF w P k e b n f) (hb : Below w.heap.size w w') : MapF w' P k e b n f := h.kept (grownBy_of_below hb) (by simp)
theorem MapF.setCell (h : MapF w P k e b n f) {a : Addr} (ha : b ≠ a.block) (u : Value) : MapF (w.setCell a u) P k e b n f := let ⟨D, h1, h2⟩ := h; ⟨D, h1.setCell ha u, h2⟩
theorem MapF.put {D : DataW Unit} (hD : IsMap D) {kl : Lit} (hk : WideAt.IsKeyLit kl) {d : Lit} (h2 : ∀ kl, (∀ z, D.atKey kl z = match f kl with | some d => .lit d | none => z) ∧ Maps.has D kl = (f kl).isSome) :
    ∀ l, (∀ z, (D.put kl (.lit d)).atKey l z = match upd f kl d l with | some d => .lit d | none => z) ∧ Maps.has (D.put kl (.lit d)) l = (upd f kl d l).isSome := by
  intro l
  by_cases h : l = kl
  · subst h
    rw [upd_same]
    exact ⟨fun z => atKey_put_same hD hk _ z, has_put_same hD hk _⟩
  · rw [upd_other f h]
    exact ⟨fun z => (atKey_put_other h _ z).trans ((h2 l).1 z), (has_put_other h _).trans (h2 l).2⟩
end
end Go.Proofs.Ytkjgddcjhikdgaa

/- The contracts on manifests: canvass.named, the reference's GreatSlots, both Checks. -/
namespace Go.Proofs.Ytkjgddcjhikdgaa
open Go Go.RowKit Go.Shelf Go.Maps Go.WideMaps

def fineS (s : Slot) : Bool := nameB s.name && decide (0 ≤ s.many ∧ s.many ≤ 64)
def zS : Slot := ⟨⟨#[]⟩, 0⟩
def okAtS (m : List Slot) (k : Nat) : Bool := fineS (m.getD k zS) && !((m.take k).any fun t => sameName t.name (m.getD k zS).name)
def chkS (m : List Slot) : Int := if 16 < m.length then 4 else if (List.range m.length).all (okAtS m) then 0 else 8
theorem range_bad {p : Nat → Bool} {n k : Nat} (hk : k < n) (h : p k = false) : (List.range n).all p = false := by
  cases hb : (List.range n).all p
  · rfl
  · rw [List.all_eq_true] at hb
    rw [hb k (List.mem_range.2 hk)] at h
    cases h
theorem sameName_eq (a b : ByteArray) : sameName a b = decide (a.data.toList = b.data.toList) := by rw [sameName, ByteArray.toList_eq, ByteArray.toList_eq, Bool.eq_iff_iff]; simp
theorem sameName_comm (a b : ByteArray) : sameName a b = sameName b a := by rw [sameName_eq, sameName_eq]; exact decide_eq_decide.2 eq_comm

end Go.Proofs.Ytkjgddcjhikdgaa

/- Findings: how they read; the contracts of the reference's SameFindings and of, and of findings.put; what Reconcile finds, as a list. -/
namespace Go.Proofs.Ytkjgddcjhikdgaa
open Go Go.RowKit Go.Shelf Go.Maps

structure Fnd where
  kind : Int
  name : ByteArray
  want : Int
  has : Int
def dFnd (_ : World) (cs : List Value) (x : Fnd) : Prop := cs = [.int .u8 x.kind, .string x.name, .int .i64 x.want, .int .i64 x.has] ∧ (Lit.int .u8 x.kind).wf = true ∧ x.name.size ≤ 140737488355328 ∧ (Lit.int .i64 x.want).wf = true ∧ (Lit.int .i64 x.has).wf = true
theorem dFnd.stable (S : Nat → Prop) : Stable S dFnd := fun _ _ _ _ _ h => h
theorem dFnd.one : OneC dFnd := by
  intro w cs x h u hu; obtain ⟨rfl, _⟩ := h; simp at hu; rcases hu with rfl | rfl | rfl | rfl <;> rfl
theorem dFnd.open {w : World} {c d e f : Value} {x : Fnd} (h : dFnd w [c, d, e, f] x) : (c = .int .u8 x.kind ∧ d = .string x.name ∧ e = .int .i64 x.want ∧ f = .int .i64 x.has) ∧ (Lit.int .u8 x.kind).wf = true ∧ x.name.size ≤ 140737488355328 ∧ (Lit.int .i64 x.want).wf = true ∧ (Lit.int .i64 x.has).wf = true := by simpa [dFnd] using h
/-- What put leaves alone: the blocks below base but for the receiver's. -/
def PutFrame (g base : Nat) (w w' : World) : Prop := w'.os = w.os ∧ w'.tape = w.tape ∧ w'.output = w.output ∧ w.heap.size ≤ w'.heap.size ∧ ∀ b, b < base → b ≠ g → w'.heap[b]? = w.heap[b]?
theorem MapF.block {w w' : World} {P : Program} {k e : TypeId} {b n : Nat} {f : Lit → Option Lit} (h : MapF w P k e b n f) (hb : w'.heap[b]? = w.heap[b]?) : MapF w' P k e b n f := by
  obtain ⟨D, ⟨es, clock, h1, h2⟩, h3⟩ := h
  exact ⟨D, ⟨es, clock, hb.trans h1, h2⟩, h3⟩
theorem PutFrame.below {g base B : Nat} {w0 w w' : World} (h : PutFrame g base w w') (hB : B ≤ g) (hg : g < base) (hb : Below B w0 w) : Below B w0 w' :=
  ⟨h.1.trans hb.os, h.2.1.trans hb.tape, h.2.2.1.trans hb.output, Nat.le_trans hb.size h.2.2.2.1, fun k hk => (h.2.2.2.2 k (by omega) (by omega)).trans (hb.block k hk)⟩
end Go.Proofs.Ytkjgddcjhikdgaa

/- What Reconcile finds, as a list; no program but for what its calls give. -/
namespace Go.Proofs.Ytkjgddcjhikdgaa
open Go Go.RowKit Go.Shelf Go.Maps

/-- The size of the last batch with a name. -/
def lastL (l : List Btc) (L : List UInt8) : Option Int := l.foldl (fun acc b => if b.name.data.toList = L then some (b.blts.length : Int) else acc) none
def fndM (l : List Btc) (s : Slot) : List Fnd := match lastL l s.name.data.toList with | none => [⟨1, s.name, s.many, 0⟩] | some n => if n = s.many then [] else [⟨2, s.name, s.many, n⟩]
def hasN (m : List Slot) (L : List UInt8) : Bool := m.any fun s => decide (s.name.data.toList = L)
def fndX (m : List Slot) (b : Btc) : List Fnd := if hasN m b.name.data.toList then [] else [⟨3, b.name, 0, (b.blts.length : Int)⟩]
def allN (l : List Btc) : Int := (l.map fun b => (b.blts.length : Int)).sum
def fndV (all voted : Int) : List Fnd := if all = voted then [] else [⟨4, ⟨#[]⟩, voted, all⟩]
def recL (m : List Slot) (l : List Btc) (voted : Int) : List Fnd := m.flatMap (fndM l) ++ l.flatMap (fndX m) ++ fndV (allN l) voted
/-- No two batches have one name. -/
def Apart (l : List Btc) : Prop := ∀ i j (hi : i < l.length) (hj : j < l.length), i ≠ j → sameName l[i].name l[j].name = false
theorem apart_of {l : List Btc} {c kind : Int} (h : recCheck l c kind = 0) : Apart l := by
  have hall : (List.range l.length).all (okAt l c kind) = true := by
    unfold recCheck at h
    split at h
    · split at h
      · omega
      · split at h
        · assumption
        · omega
    · omega
  have hlt : ∀ i j (hij : i < j) (hj : j < l.length), sameName (l[i]'(by omega)).name l[j].name = false := by
    intro i j hij hj
    have h1 := List.all_eq_true.1 hall j (List.mem_range.2 hj)
    simp only [okAt, List.getElem?_eq_getElem hj, Bool.and_eq_true, Bool.not_eq_true'] at h1
    have h2 := List.any_eq_false.1 h1.2 (l[i]'(by omega)) (List.mem_take_iff_getElem.2 ⟨i, by omega, rfl⟩)
    simpa using h2
  intro i j hi hj hne
  rcases Nat.lt_or_gt_of_ne hne with h1 | h1
  · exact hlt i j h1 hj
  · rw [sameName_comm]; exact hlt j i h1 hi
def recoI (m : List Slot) (l : List Btc) (c kind voted : Int) : Int := if chkS m = 0 then (if recCheck l c kind = 0 then (if voted < 0 then 2 else 0) else recCheck l c kind) else chkS m
def recoV (m : List Slot) (l : List Btc) (c kind voted : Int) : List Fnd := if recoI m l c kind voted = 0 then recL m l voted else []
def RecoGives (m : List Slot) (l : List Btc) (c kind voted : Int) (w : World) (e : Ending) (w' : World) : Prop :=
  ∃ v, e = .returned (.tuple #[v, .int .i64 (recoI m l c kind voted)]) ∧ Own w.heap.size 113 4 dFnd w' v (recoV m l c kind voted) ∧ Below w.heap.size w w'
theorem RecoGives.none {m : List Slot} {l : List Btc} {c kind voted : Int} {w w' : World} {i : Int} (hi : recoI m l c kind voted = i) (h0 : i ≠ 0) (hb : Below w.heap.size w w') :
    RecoGives m l c kind voted w (.returned (.tuple #[.slice none 0 0, .int .i64 i])) w' := ⟨_, by rw [hi], by rw [recoV, if_neg (by rw [hi]; exact h0)]; exact Own.nil _ _ _ _ _, hb⟩
theorem RecoGives.some {m : List Slot} {l : List Btc} {c kind voted : Int} {w w' : World} {v : Value} {lo : Nat} (h1 : chkS m = 0) (h2 : recCheck l c kind = 0) (h3 : 0 ≤ voted) (hv : Own lo 113 4 dFnd w' v (recL m l voted)) (hlo : w.heap.size ≤ lo) (hb : Below w.heap.size w w') :
    RecoGives m l c kind voted w (.returned (.tuple #[v, .int .i64 0])) w' := by
  have hi : recoI m l c kind voted = 0 := by rw [recoI, if_pos h1, if_pos h2, if_neg (by omega)]
  exact ⟨v, by rw [hi], by rw [recoV, if_pos hi]; exact Own.rebase hv hlo, hb⟩
end Go.Proofs.Ytkjgddcjhikdgaa
