/- Texts of one claim, put together: Spoil, LawPuts, At, LawTells. -/
import Derived.Test.YtkjgddcjhikdgaaJGFoot
import Derived.Test.YtkjgddcjhikdgaaProg
import Derived.Test.YtkjgddcjhikdgaaJGPut
import Derived.Test.YtkjgddcjhikdgaaJGSame
import Derived.WalkSpells
import Derived.WalkLawsBesides
import Derived.Deep.CutRange
import Derived.Deep.CutBlock

/- The contract of spoil: it writes into batches of the call's own; only their shape matters. -/
namespace Go.Proofs.Ytkjgddcjhikdgaa
open Go Go.RowKit

/-- Values of one kind. -/
def Like (v u : Value) : Prop := (∃ k i j, v = .int k i ∧ u = .int k j) ∨ (∃ s t, v = .string s ∧ u = .string t) ∨ u = v
def Kin (w w' : World) : Prop := (∀ b, Soft w b → Soft w' b) ∧ ∀ b o v, w.cell? ⟨b, o, none⟩ = some v → ∃ u, w'.cell? ⟨b, o, none⟩ = some u ∧ Like v u
theorem Kin.setCell {w : World} {b o : Nat} {v u : Value} (hc : w.cell? ⟨b, o, none⟩ = some v) (hl : Like v u) : Kin w (w.setCell ⟨b, o, none⟩ u) := by
  refine ⟨fun c h => h.setCell b o u, fun c p x hx => ?_⟩
  by_cases h : (⟨b, o, none⟩ : Addr) = ⟨c, p, none⟩
  · rw [← h] at hx ⊢
    rw [hc] at hx
    cases hx
    exact ⟨u, World.cell?_setCell_same _ _ _ hc, hl⟩
  · exact ⟨x, (World.cell?_setCell_other _ _ _ _ h).trans hx, .inr (.inr rfl)⟩
def ShI (base : Nat) (w : World) (v : Value) (n : Nat) : Prop :=
  ∃ a cap, v = .slice a n cap ∧ n ≤ cap ∧ n ≤ 140737488355328 ∧ ∀ k, k < n → ∃ b off i, a = some ⟨b, off, none⟩ ∧ base ≤ b ∧ Soft w b ∧ w.cell? ⟨b, off + k, none⟩ = some (.int .i64 i)
def ShB (base : Nat) (w : World) (v : Value) (xs : List Nat) : Prop :=
  ∃ a cap, v = .slice a xs.length cap ∧ xs.length ≤ cap ∧ xs.length ≤ 140737488355328 ∧ ∀ k (h : k < xs.length), ∃ b off i d, a = some ⟨b, off, none⟩ ∧ base ≤ b ∧ Soft w b ∧
    w.cell? ⟨b, off + k * 2, none⟩ = some (.int .u8 i) ∧ w.cell? ⟨b, off + k * 2 + 1, none⟩ = some d ∧ ShI base w d xs[k]
def ShC (base : Nat) (w : World) (v : Value) (xs : List (List Nat)) : Prop :=
  ∃ a cap, v = .slice a xs.length cap ∧ xs.length ≤ cap ∧ xs.length ≤ 140737488355328 ∧ ∀ k (h : k < xs.length), ∃ b off i d, a = some ⟨b, off, none⟩ ∧ base ≤ b ∧ Soft w b ∧
    w.cell? ⟨b, off + k * 2, none⟩ = some (.string i) ∧ w.cell? ⟨b, off + k * 2 + 1, none⟩ = some d ∧ ShB base w d xs[k]
theorem Kin.int {w w' : World} (h : Kin w w') {b o : Nat} {k : IntKind} {i : Int} (hc : w.cell? ⟨b, o, none⟩ = some (.int k i)) : ∃ j, w'.cell? ⟨b, o, none⟩ = some (.int k j) := by
  obtain ⟨u, hu, h | h | h⟩ := h.2 _ _ _ hc
  · obtain ⟨k', i', j, e1, e2⟩ := h; cases e1; exact ⟨j, by rw [hu, e2]⟩
  · obtain ⟨s, t, e1, _⟩ := h; cases e1
  · exact ⟨i, by rw [hu, h]⟩
theorem Kin.slice {w w' : World} (h : Kin w w') {b o : Nat} {a : Option Addr} {n c : Nat} (hc : w.cell? ⟨b, o, none⟩ = some (.slice a n c)) : w'.cell? ⟨b, o, none⟩ = some (.slice a n c) := by
  obtain ⟨u, hu, h | h | h⟩ := h.2 _ _ _ hc
  · obtain ⟨k', i', j, e1, e2⟩ := h; cases e1
  · obtain ⟨s', t, e1, e2⟩ := h; cases e1
  · rw [hu, h]
theorem ShI.of {S : Nat → Prop} {base : Nat} {w : World} {v : Value} {xs : List Int} (hS : ∀ b, S b → base ≤ b) (h : WSl S 1 (dInt .i64) w v xs) : ShI base w v xs.length := by
  obtain ⟨a, cap, rfl, h1, h2⟩ := RSl.shape h.1
  refine ⟨a, cap, rfl, h1, h2, fun k hk => ?_⟩
  obtain ⟨b, off, c, rfl, k2, k3, k4, k5⟩ := RSl.at1 h.1 k hk
  exact ⟨b, off, _, rfl, hS b k2, h.2 b off _ _ rfl (by omega), by rw [k4, k5.open.1]⟩
theorem ShB.of {S : Nat → Prop} {base : Nat} {w : World} {v : Value} {xs : List Blt} (hS : ∀ b, S b → base ≤ b) (h : WSl S 2 (wBlt S) w v xs) : ShB base w v (xs.map (·.marks.length)) := by
  obtain ⟨a, cap, rfl, h1, h2⟩ := RSl.shape h.1
  refine ⟨a, cap, by simp, by simpa using h1, by simpa using h2, fun k hk => ?_⟩
  obtain ⟨b, off, c, d, rfl, k2, k3, k4, k5, v', k6, -, -, k7⟩ := RSl.at2 h.1 k (by simpa using hk)
  simp only [List.cons.injEq, and_true] at k6
  obtain ⟨rfl, rfl⟩ := k6
  exact ⟨b, off, _, _, rfl, hS b k2, h.2 b off _ _ rfl (by rw [List.length_map] at hk; omega), k4, k5, by rw [List.getElem_map]; exact ShI.of hS k7⟩
def shape (l : List Btc) : List (List Nat) := l.map fun x => x.blts.map (·.marks.length)
theorem ShC.of {S : Nat → Prop} {base : Nat} {w : World} {v : Value} {xs : List Btc} (hS : ∀ b, S b → base ≤ b) (h : WBtcs S w v xs) : ShC base w v (shape xs) := by
  obtain ⟨a, cap, rfl, h1, h2⟩ := RSl.shape h.1
  refine ⟨a, cap, by simp [shape], by simpa [shape] using h1, by simpa [shape] using h2, fun k hk => ?_⟩
  have hk' : k < xs.length := by simpa [shape] using hk
  obtain ⟨b, off, c, d, rfl, k2, k3, k4, k5, v', k6, -, k7⟩ := RSl.at2 h.1 k hk'
  simp only [List.cons.injEq, and_true] at k6
  obtain ⟨rfl, rfl⟩ := k6
  refine ⟨b, off, _, _, rfl, hS b k2, h.2 b off _ _ rfl (by omega), k4, k5, ?_⟩
  have : (shape xs)[k] = xs[k].blts.map (·.marks.length) := by simp [shape]
  rw [this]
  exact ShB.of hS k7

end Go.Proofs.Ytkjgddcjhikdgaa

/- What the law RecordPuts answers. -/
namespace Go.Proofs.Ytkjgddcjhikdgaa
open Go Go.RowKit

/-- Behind the copies: own batches and an own ballot, the ballot in a block of its own. -/
def PutsR (w : World) (l : List Btc) (b : Blt) (o : Obj) (s11 s12 : Value) (wc : World) : Prop :=
  ∃ g4 a4 c4, s12 = .pointer (some ⟨g4, 0, none⟩) ∧ wc.heap[g4]? = some (.cells #[.int .u8 b.kind, .slice a4 b.marks.length c4] 25 (0, 0)) ∧ RBtcs Any wc s11 l ∧
    dBlt Any wc [.int .u8 b.kind, .slice a4 b.marks.length c4] b ∧ Below w.heap.size w wc ∧ wc.heap[w.heap.size]? = some o
theorem PutsR.stored {w w3 w4 : World} {l : List Btc} {b : Blt} {o : Obj} {v3 : Value} {g lo hi lo4 hi4 : Nat} {a4 : Option Addr} {c4 : Nat} {cs : Array Value} (hR : RBtcs (Span lo hi) w3 v3 l) (h34 : Below w3.heap.size w3 w4)
    (hB : dBlt (Span lo4 hi4) w4 [.int .u8 b.kind, .slice a4 b.marks.length c4] b) (hg : w4.heap[g]? = some (.cells cs 25 (0, 0))) (hcs : cs = #[.int .u8 0, .slice none 0 0]) (h1 : ¬ Span lo hi g) (h4 : ¬ Span lo4 hi4 g)
    (hw : Below w.heap.size w w4) (hgw : w.heap.size < g) (ho : w4.heap[w.heap.size]? = some o) :
    PutsR w l b o v3 (.pointer (some ⟨g, 0, none⟩)) ((w4.setCell ⟨g, 0, none⟩ (.int .u8 b.kind)).setCell ⟨g, 1, none⟩ (.slice a4 b.marks.length c4)) := by
  subst hcs
  refine ⟨g, a4, c4, rfl, ?_, ?_, ?_, (hw.setCell (p := ⟨g, 0, none⟩) (Nat.le_of_lt hgw) _).setCell (p := ⟨g, 1, none⟩) (Nat.le_of_lt hgw) _, ?_⟩
  · have := heap_setCell_at (o := 1) (heap_setCell_at (o := 0) hg (.int .u8 b.kind)) (.slice a4 b.marks.length c4)
    simpa using this
  · exact (hR.same (((Same.of_below h34).setCell (p := ⟨g, 0, none⟩) h1 _).setCell (p := ⟨g, 1, none⟩) h1 _)).mono (fun _ _ => trivial)
  · exact (dBlt.stable _ _ _ _ _ (((Same.refl _ _).setCell (p := ⟨g, 0, none⟩) h4 _).setCell (p := ⟨g, 1, none⟩) h4 _) hB).mono (fun _ _ => trivial)
  · exact (setCell2_off (by omega) _ _).trans ho
theorem PutsR.laid {w w3 w4 : World} {l : List Btc} {b : Blt} {o : Obj} {v3 : Value} {a4 : Option Addr} {c4 : Nat} {T T' : Nat → Prop} (hR : RBtcs T w3 v3 l) (h34 : Below w3.heap.size w3 w4)
    (hB : dBlt T' w4 [.int .u8 b.kind, .slice a4 b.marks.length c4] b) (hw : Below w.heap.size w w4) (ho : w4.heap[w.heap.size]? = some o) :
    PutsR w l b o v3 (.pointer (some ⟨w4.heap.size, 0, none⟩)) (w4.alloc (.cells #[.int .u8 b.kind, .slice a4 b.marks.length c4] 25)) := by
  have h5 : Below w4.heap.size w4 (w4.alloc (.cells #[.int .u8 b.kind, .slice a4 b.marks.length c4] 25)) := (Below.refl _ _).alloc (Nat.le_refl _) _
  exact ⟨_, a4, c4, rfl, box_new _ _, (hR.same (.of_below (h34.trans (h5.mono h34.size)))).mono (fun _ _ => trivial), (dBlt.stable _ _ _ _ _ (.of_below h5) hB).mono (fun _ _ => trivial), hw.alloc hw.size _, box_old _ ho⟩
end Go.Proofs.Ytkjgddcjhikdgaa

/- The contracts of record.At and of the reference's At. -/
namespace Go.Proofs.Ytkjgddcjhikdgaa
open Go Go.RowKit Go.Shelf

/-- The ballot at a place, and the answer. -/
def atAt (l : List Btc) (b k : Int) : Option Blt := if 0 ≤ b ∧ 0 ≤ k then (l[b.toNat]?).bind (fun x => x.blts[k.toNat]?) else none
def answAt (l : List Btc) (c kind b k : Int) : Int := if recCheck l c kind = 0 then (match atAt l b k with | some _ => 0 | none => 6) else recCheck l c kind
def bltAt (l : List Btc) (c kind b k : Int) : Blt := if recCheck l c kind = 0 then (atAt l b k).getD ⟨0, []⟩ else ⟨0, []⟩
def AtGives (l : List Btc) (c kind b k : Int) (w : World) (e : Ending) (w' : World) : Prop :=
  ∃ v, e = .returned (.tuple #[v, .int .i64 (answAt l c kind b k)]) ∧ WBlt (From w.heap.size) w' v (bltAt l c kind b k) ∧ Below w.heap.size w w'
theorem bltAt_zero {l : List Btc} {c kind b k : Int} (h : answAt l c kind b k ≠ 0) : bltAt l c kind b k = ⟨0, []⟩ := by
  unfold answAt at h
  unfold bltAt
  split
  · rename_i hc
    rw [if_pos hc] at h
    cases ho : atAt l b k
    · rfl
    · rw [ho] at h; exact absurd rfl h
  · rfl
theorem AtGives.none {l : List Btc} {c kind b k : Int} {w w' : World} {i : Int} (h : answAt l c kind b k = i ∧ i ≠ 0) (hb : Below w.heap.size w w') :
    AtGives l c kind b k w (.returned (.tuple #[.agg #[.int .u8 0, .slice none 0 0], .int .i64 i])) w' :=
  ⟨_, by rw [h.1], by rw [bltAt_zero (by rw [h.1]; exact h.2)]; exact ⟨_, _, rfl, _, rfl, by simp, by simp, WSl.nil⟩, hb⟩
theorem AtGives.some {l : List Btc} {c kind b k : Int} {w w' : World} {v : Value} {x : Blt} {base : Nat} (hi : answAt l c kind b k = 0) (hl : bltAt l c kind b k = x) (hv : WBlt (From base) w' v x) (hbase : w.heap.size ≤ base) (hb : Below w.heap.size w w') :
    AtGives l c kind b k w (.returned (.tuple #[v, .int .i64 0])) w' := by
  refine ⟨v, by rw [hi], ?_, hb⟩
  rw [hl]
  obtain ⟨c0, d0, hv, hx⟩ := hv
  exact ⟨c0, d0, hv, hx.mono fun b hb => by simp only [From] at hb ⊢; omega⟩

end Go.Proofs.Ytkjgddcjhikdgaa

/- What the law RecordTells answers. -/
namespace Go.Proofs.Ytkjgddcjhikdgaa
open Go Go.RowKit

/-- At, its ballot laid open. -/
def AtOpen (X : Blt) (I : Int) (w : World) (e : Ending) (w' : World) : Prop :=
  ∃ a n, e = .returned (.tuple #[.agg #[.int .u8 X.kind, .slice a X.marks.length n], .int .i64 I]) ∧ X.marks.length ≤ 140737488355328 ∧ wBlt (Span w.heap.size w'.heap.size) w' [.int .u8 X.kind, .slice a X.marks.length n] X ∧ Below w.heap.size w w'
theorem AtOpen.of {l : List Btc} {c kind bt k : Int} {X : Blt} {I : Int} {w w' : World} {e : Ending} (hX : bltAt l c kind bt k = X) (hI : answAt l c kind bt k = I) (h : AtGives l c kind bt k w e w') : AtOpen X I w e w' := by
  obtain ⟨v, he, ⟨c0, d0, rfl, hx⟩, hb⟩ := h
  rw [hX] at hx
  rw [hI] at he
  obtain ⟨a, n, rfl, rfl, hl, -, -, -⟩ := id hx.toD.open
  exact ⟨a, n, he, hl, hx.cut.mono (fun b hb => ⟨hb.1, hb.2⟩), hb⟩
end Go.Proofs.Ytkjgddcjhikdgaa
