/- Texts of one claim, put together: Spoil, LawPuts, At, LawTells. -/
import Derived.Test.YtkjgddcjhikdgaaKGFoot
import Derived.Test.YtkjgddcjhikdgaaProg
import Derived.Test.YtkjgddcjhikdgaaKGPut
import Derived.Test.YtkjgddcjhikdgaaKGSame
import Derived.WalkSpells
import Derived.WalkLawsBesides
import Derived.Deep.CutRange
import Derived.Deep.CutBlock

/- The contract of spoil: it writes into batches of the call's own; only their shape matters. -/
namespace Go.Proofs.Ytkjgddcjhikdgaa
open Go Go.RowKit

/-- Values of one kind. -/
def Like (v u : Value) : Prop := (∃ k i j, v = .int k i ∧ u = .int k j) ∨ (∃ s t, v = .string s ∧ u = .string t) ∨ u = v
def Kin (w w' : World) : Prop := (∀ b, Soft w b → Soft w' b) ∧ ∀ b o v, w.cell? ⟨b, o, none⟩ = some v → ∃ u, w'.cell? ⟨b, o, none⟩ = some u ∧ Like v u
theorem Kin.setCell {w : World} {b o : Nat} {v u : Value} (hc : w.cell? ⟨b, o, none⟩ = some v) (hl : Like v u) : Kin w (w.setCell ⟨b, o, none⟩ u) := by
  refine ⟨fun c h => h.setCell b o u, fun c p x hx => ?_⟩
  by_cases h : (⟨b, o, none⟩ : Addr) = ⟨c, p, none⟩
  · rw [← h] at hx ⊢
    rw [hc] at hx
    cases hx
    exact ⟨u, World.cell?_setCell_same _ _ _ hc, hl⟩
  · exact ⟨x, (World.cell?_setCell_other _ _ _ _ h).trans hx, .inr (.inr rfl)⟩
def ShI (base : Nat) (w : World) (v : Value) (n : Nat) : Prop :=
  ∃ a cap, v = .slice a n cap ∧ n ≤ cap ∧ n ≤ 140737488355328 ∧ ∀ k, k < n → ∃ b off i, a = some ⟨b, off, none⟩ ∧ base ≤ b ∧ Soft w b ∧ w.cell? ⟨b, off + k, none⟩ = some (.int .i64 i)
def ShB (base : Nat) (w : World) (v : Value) (xs : List Nat) : Prop :=
  ∃ a cap, v = .slice a xs.length cap ∧ xs.length ≤ cap ∧ xs.length ≤ 140737488355328 ∧ ∀ k (h : k < xs.length), ∃ b off i d, a = some ⟨b, off, none⟩ ∧ base ≤ b ∧ Soft w b ∧
    w.cell? ⟨b, off + k * 2, none⟩ = some (.int .u8 i) ∧ w.cell? ⟨b, off + k * 2 + 1, none⟩ = some d ∧ ShI base w d xs[k]
def ShC (base : Nat) (w : World) (v : Value) (xs : List (List Nat)) : Prop :=
  ∃ a cap, v = .slice a xs.length cap ∧ xs.length ≤ cap ∧ xs.length ≤ 140737488355328 ∧ ∀ k (h : k < xs.length), ∃ b off i d, a = some ⟨b, off, none⟩ ∧ base ≤ b ∧ Soft w b ∧
    w.cell? ⟨b, off + k * 2, none⟩ = some (.string i) ∧ w.cell? ⟨b, off + k * 2 + 1, none⟩ = some d ∧ ShB base w d xs[k]
theorem Kin.int {w w' : World} (h : Kin w w') {b o : Nat} {k : IntKind} {i : Int} (hc : w.cell? ⟨b, o, none⟩ = some (.int k i)) : ∃ j, w'.cell? ⟨b, o, none⟩ = some (.int k j) := by
  obtain ⟨u, hu, h | h | h⟩ := h.2 _ _ _ hc
  · obtain ⟨k', i', j, e1, e2⟩ := h; cases e1; exact ⟨j, by rw [hu, e2]⟩
  · obtain ⟨s, t, e1, _⟩ := h; cases e1
  · exact ⟨i, by rw [hu, h]⟩
theorem Kin.str {w w' : World} (h : Kin w w') {b o : Nat} {s : ByteArray} (hc : w.cell? ⟨b, o, none⟩ = some (.string s)) : ∃ t, w'.cell? ⟨b, o, none⟩ = some (.string t) := by
  obtain ⟨u, hu, h | h | h⟩ := h.2 _ _ _ hc
  · obtain ⟨k', i', j, e1, e2⟩ := h; cases e1
  · obtain ⟨s', t, e1, e2⟩ := h; exact ⟨t, by rw [hu, e2]⟩
  · exact ⟨s, by rw [hu, h]⟩
theorem Kin.slice {w w' : World} (h : Kin w w') {b o : Nat} {a : Option Addr} {n c : Nat} (hc : w.cell? ⟨b, o, none⟩ = some (.slice a n c)) : w'.cell? ⟨b, o, none⟩ = some (.slice a n c) := by
  obtain ⟨u, hu, h | h | h⟩ := h.2 _ _ _ hc
  · obtain ⟨k', i', j, e1, e2⟩ := h; cases e1
  · obtain ⟨s', t, e1, e2⟩ := h; cases e1
  · rw [hu, h]
theorem ShI.of {S : Nat → Prop} {base : Nat} {w : World} {v : Value} {xs : List Int} (hS : ∀ b, S b → base ≤ b) (h : WSl S 1 (dInt .i64) w v xs) : ShI base w v xs.length := by
  obtain ⟨a, cap, rfl, h1, h2⟩ := RSl.shape h.1
  refine ⟨a, cap, rfl, h1, h2, fun k hk => ?_⟩
  obtain ⟨b, off, c, rfl, k2, k3, k4, k5⟩ := RSl.at1 h.1 k hk
  exact ⟨b, off, _, rfl, hS b k2, h.2 b off _ _ rfl (by omega), by rw [k4, k5.open.1]⟩
theorem ShB.of {S : Nat → Prop} {base : Nat} {w : World} {v : Value} {xs : List Blt} (hS : ∀ b, S b → base ≤ b) (h : WSl S 2 (wBlt S) w v xs) : ShB base w v (xs.map (·.marks.length)) := by
  obtain ⟨a, cap, rfl, h1, h2⟩ := RSl.shape h.1
  refine ⟨a, cap, by simp, by simpa using h1, by simpa using h2, fun k hk => ?_⟩
  obtain ⟨b, off, c, d, rfl, k2, k3, k4, k5, v', k6, -, -, k7⟩ := RSl.at2 h.1 k (by simpa using hk)
  simp only [List.cons.injEq, and_true] at k6
  obtain ⟨rfl, rfl⟩ := k6
  exact ⟨b, off, _, _, rfl, hS b k2, h.2 b off _ _ rfl (by rw [List.length_map] at hk; omega), k4, k5, by rw [List.getElem_map]; exact ShI.of hS k7⟩
def shape (l : List Btc) : List (List Nat) := l.map fun x => x.blts.map (·.marks.length)
theorem ShC.of {S : Nat → Prop} {base : Nat} {w : World} {v : Value} {xs : List Btc} (hS : ∀ b, S b → base ≤ b) (h : WBtcs S w v xs) : ShC base w v (shape xs) := by
  obtain ⟨a, cap, rfl, h1, h2⟩ := RSl.shape h.1
  refine ⟨a, cap, by simp [shape], by simpa [shape] using h1, by simpa [shape] using h2, fun k hk => ?_⟩
  have hk' : k < xs.length := by simpa [shape] using hk
  obtain ⟨b, off, c, d, rfl, k2, k3, k4, k5, v', k6, -, k7⟩ := RSl.at2 h.1 k hk'
  simp only [List.cons.injEq, and_true] at k6
  obtain ⟨rfl, rfl⟩ := k6
  refine ⟨b, off, _, _, rfl, hS b k2, h.2 b off _ _ rfl (by omega), k4, k5, ?_⟩
  have : (shape xs)[k] = xs[k].blts.map (·.marks.length) := by simp [shape]
  rw [this]
  exact ShB.of hS k7

end Go.Proofs.Ytkjgddcjhikdgaa

/- What the law RecordPuts answers. -/
namespace Go.Proofs.Ytkjgddcjhikdgaa
open Go Go.RowKit

/-- Behind the copies: own batches and an own ballot, the ballot in a block of its own. -/
def PutsR (w : World) (l : List Btc) (b : Blt) (o : Obj) (s11 s12 : Value) (wc : World) : Prop :=
  ∃ g4 a4 c4, s12 = .pointer (some ⟨g4, 0, none⟩) ∧ wc.heap[g4]? = some (.cells #[.int .u8 b.kind, .slice a4 b.marks.length c4] 25 (0, 0)) ∧ RBtcs Any wc s11 l ∧
    dBlt Any wc [.int .u8 b.kind, .slice a4 b.marks.length c4] b ∧ Below w.heap.size w wc ∧ wc.heap[w.heap.size]? = some o
theorem same08T (S T : Nat → Prop) (u v : Value) (x : Blt) (w : World) (hx : VBlt S w u x) (hy : VBlt T w v x) :
    Calls Try.prog 26 #[u, v] w fun e w' => e = .returned (.bool true) ∧ Below w.heap.size w w' := by
  have := same08 S T u v x x w hx hy
  rwa [eqBlt_refl] at this
theorem PutsR.stored {w w3 w4 : World} {l : List Btc} {b : Blt} {o : Obj} {v3 : Value} {g lo hi lo4 hi4 : Nat} {a4 : Option Addr} {c4 : Nat} {cs : Array Value} (hR : RBtcs (Span lo hi) w3 v3 l) (h34 : Below w3.heap.size w3 w4)
    (hB : dBlt (Span lo4 hi4) w4 [.int .u8 b.kind, .slice a4 b.marks.length c4] b) (hg : w4.heap[g]? = some (.cells cs 25 (0, 0))) (hcs : cs = #[.int .u8 0, .slice none 0 0]) (h1 : ¬ Span lo hi g) (h4 : ¬ Span lo4 hi4 g)
    (hw : Below w.heap.size w w4) (hgw : w.heap.size < g) (ho : w4.heap[w.heap.size]? = some o) :
    PutsR w l b o v3 (.pointer (some ⟨g, 0, none⟩)) ((w4.setCell ⟨g, 0, none⟩ (.int .u8 b.kind)).setCell ⟨g, 1, none⟩ (.slice a4 b.marks.length c4)) := by
  subst hcs
  refine ⟨g, a4, c4, rfl, ?_, ?_, ?_, (hw.setCell (p := ⟨g, 0, none⟩) (Nat.le_of_lt hgw) _).setCell (p := ⟨g, 1, none⟩) (Nat.le_of_lt hgw) _, ?_⟩
  · have := heap_setCell_at (o := 1) (heap_setCell_at (o := 0) hg (.int .u8 b.kind)) (.slice a4 b.marks.length c4)
    simpa using this
  · exact (hR.same (((Same.of_below h34).setCell (p := ⟨g, 0, none⟩) h1 _).setCell (p := ⟨g, 1, none⟩) h1 _)).mono (fun _ _ => trivial)
  · exact (dBlt.stable _ _ _ _ _ (((Same.refl _ _).setCell (p := ⟨g, 0, none⟩) h4 _).setCell (p := ⟨g, 1, none⟩) h4 _) hB).mono (fun _ _ => trivial)
  · exact (setCell2_off (by omega) _ _).trans ho
theorem PutsR.laid {w w3 w4 : World} {l : List Btc} {b : Blt} {o : Obj} {v3 : Value} {a4 : Option Addr} {c4 : Nat} {T T' : Nat → Prop} (hR : RBtcs T w3 v3 l) (h34 : Below w3.heap.size w3 w4)
    (hB : dBlt T' w4 [.int .u8 b.kind, .slice a4 b.marks.length c4] b) (hw : Below w.heap.size w w4) (ho : w4.heap[w.heap.size]? = some o) :
    PutsR w l b o v3 (.pointer (some ⟨w4.heap.size, 0, none⟩)) (w4.alloc (.cells #[.int .u8 b.kind, .slice a4 b.marks.length c4] 25)) := by
  have h5 : Below w4.heap.size w4 (w4.alloc (.cells #[.int .u8 b.kind, .slice a4 b.marks.length c4] 25)) := (Below.refl _ _).alloc (Nat.le_refl _) _
  exact ⟨_, a4, c4, rfl, box_new _ _, (hR.same (.of_below (h34.trans (h5.mono h34.size)))).mono (fun _ _ => trivial), (dBlt.stable _ _ _ _ _ (.of_below h5) hB).mono (fun _ _ => trivial), hw.alloc hw.size _, box_old _ ho⟩
end Go.Proofs.Ytkjgddcjhikdgaa

/- The contracts of record.At and of the reference's At. -/
namespace Go.Proofs.Ytkjgddcjhikdgaa
open Go Go.RowKit Go.Shelf

/-- The ballot at a place, and the answer. -/
def atAt (l : List Btc) (b k : Int) : Option Blt := if 0 ≤ b ∧ 0 ≤ k then (l[b.toNat]?).bind (fun x => x.blts[k.toNat]?) else none
def answAt (l : List Btc) (c kind b k : Int) : Int := if recCheck l c kind = 0 then (match atAt l b k with | some _ => 0 | none => 6) else recCheck l c kind
def bltAt (l : List Btc) (c kind b k : Int) : Blt := if recCheck l c kind = 0 then (atAt l b k).getD ⟨0, []⟩ else ⟨0, []⟩
theorem atAt_none {l : List Btc} {b k : Int} (h : ∀ n m : Nat, b = n → k = m → ∀ (h : n < l.length), ¬ m < l[n].blts.length) : (match atAt l b k with | some _ => (0 : Int) | none => 6) = 6 := by
  have : atAt l b k = none := by
    unfold atAt
    split
    · rename_i hh
      rcases Nat.lt_or_ge b.toNat l.length with h1 | h1
      · have := h b.toNat k.toNat (by omega) (by omega) h1
        simp [List.getElem?_eq_getElem h1]
        omega
      · simp [List.getElem?_eq_none h1]
    · rfl
  rw [this]
theorem atAt_some {l : List Btc} {n m : Nat} (h : n < l.length) (h' : m < l[n].blts.length) : (match atAt l n m with | some _ => (0 : Int) | none => 6) = 0 ∧ (atAt l n m).getD ⟨0, []⟩ = l[n].blts[m] := by
  have : atAt l n m = some l[n].blts[m] := by simp [atAt, h, h']
  rw [this]
  exact ⟨rfl, rfl⟩
def AtGives (l : List Btc) (c kind b k : Int) (w : World) (e : Ending) (w' : World) : Prop :=
  ∃ v, e = .returned (.tuple #[v, .int .i64 (answAt l c kind b k)]) ∧ WBlt (From w.heap.size) w' v (bltAt l c kind b k) ∧ Below w.heap.size w w'
theorem bltAt_zero {l : List Btc} {c kind b k : Int} (h : answAt l c kind b k ≠ 0) : bltAt l c kind b k = ⟨0, []⟩ := by
  unfold answAt at h
  unfold bltAt
  split
  · rename_i hc
    rw [if_pos hc] at h
    cases ho : atAt l b k
    · rfl
    · rw [ho] at h; exact absurd rfl h
  · rfl
theorem AtGives.none {l : List Btc} {c kind b k : Int} {w w' : World} {i : Int} (h : answAt l c kind b k = i ∧ i ≠ 0) (hb : Below w.heap.size w w') :
    AtGives l c kind b k w (.returned (.tuple #[.agg #[.int .u8 0, .slice none 0 0], .int .i64 i])) w' :=
  ⟨_, by rw [h.1], by rw [bltAt_zero (by rw [h.1]; exact h.2)]; exact ⟨_, _, rfl, _, rfl, by simp, by simp, WSl.nil⟩, hb⟩
theorem AtGives.some {l : List Btc} {c kind b k : Int} {w w' : World} {v : Value} {x : Blt} {base : Nat} (hi : answAt l c kind b k = 0) (hl : bltAt l c kind b k = x) (hv : WBlt (From base) w' v x) (hbase : w.heap.size ≤ base) (hb : Below w.heap.size w w') :
    AtGives l c kind b k w (.returned (.tuple #[v, .int .i64 0])) w' := by
  refine ⟨v, by rw [hi], ?_, hb⟩
  rw [hl]
  obtain ⟨c0, d0, hv, hx⟩ := hv
  exact ⟨c0, d0, hv, hx.mono fun b hb => by simp only [From] at hb ⊢; omega⟩

set_option maxHeartbeats 1000000 in
theorem recordAt (S : Nat → Prop) (v : Value) (l : List Btc) (c kind bt k : Int) (w : World) (h : RBtcs S w v l) (hsm : Small l) (hbt : -9223372036854775808 ≤ bt ∧ bt ≤ 9223372036854775807) (hkk : -9223372036854775808 ≤ k ∧ k ≤ 9223372036854775807) :
    Calls Try.prog 36 #[v, .int .i64 c, .int .u8 kind, .int .i64 bt, .int .i64 k] w (AtGives l c kind bt k w) := by
  obtain ⟨a, cap, rfl, h1, h2⟩ := RSl.shape h
  have hb0 : Below w.heap.size w (w.alloc (.cells #[.int .u8 0, .slice none 0 0] 25)) := (Below.refl _ _).alloc (Nat.le_refl _) _
  have hbx := box_new w (.cells #[.int .u8 0, .slice none 0 0] 25)
  have hC := recordCheck S _ l c kind _ (h.same (.of_below hb0))
  by_cases hc : recCheck l c kind = 0
  case neg =>
    have hc1 : (recCheck l c kind != 0) = true := by simpa using hc
    have he : answAt l c kind bt k = recCheck l c kind ∧ recCheck l c kind ≠ 0 := ⟨by rw [answAt, if_neg hc], hc⟩
    generalize recCheck l c kind = i at *
    have HC := Lib.hid hC; have HE := Lib.hid he; clear hC hc he
    go_enter Try.func36, Try.ntmps36
    go_wp2_with (go_at_call 39; refine HC.out.mono ?_; rintro e w1 ⟨rfl, hb1⟩; obtain ⟨gx1, hcx1, hfx1⟩ := own_box hb1 (by simp) hbx; have hl1 := hb1.size; have hlt1 := size_of_box gx1)
    exact bodyPost_ret (v := .tuple #[.agg #[.int .u8 0, .slice none 0 0], .int .i64 i]) (by simp [results, Try.results36, go_sem, hcx1]) rfl (AtGives.none HE.out ((hb0.trans (hb1.mono (by simp))).setCell (p := ⟨w.heap.size, 0, none⟩) (Nat.le_refl _) _ |>.setCell (p := ⟨w.heap.size, 1, none⟩) (Nat.le_refl _) _))
  rw [hc] at hC
  have hO : ∀ e, (∀ n m : Nat, bt = n → k = m → ∀ (h : n < l.length), ¬ m < l[n].blts.length) → e = 6 → answAt l c kind bt k = e ∧ (e : Int) ≠ 0 := fun e h he => ⟨by rw [answAt, if_pos hc, he]; exact atAt_none h, by omega⟩
  have hS : ∀ n m : Nat, bt = n → k = m → ∀ (h : n < l.length) (h' : m < l[n].blts.length), answAt l c kind bt k = 0 ∧ bltAt l c kind bt k = l[n].blts[m] := fun n m h1 h2 h h' => by
    subst h1 h2
    rw [answAt, bltAt, if_pos hc, if_pos hc]
    exact atAt_some h h'
  have HC := Lib.hid hC; have HO := Lib.hid hO; have HS := Lib.hid hS; clear hC hc hO hS
  by_cases b1 : bt < 0
  · have HE := Lib.hid (HO.out 6 (fun n m hn => by omega) rfl)
    go_enter Try.func36, Try.ntmps36
    go_wp2_with (go_at_call 39; refine HC.out.mono ?_; rintro e w1 ⟨rfl, hb1⟩; obtain ⟨gx1, hcx1, hfx1⟩ := own_box hb1 (by simp) hbx; have hl1 := hb1.size; have hlt1 := size_of_box gx1)
    exact bodyPost_ret (v := .tuple #[.agg #[.int .u8 0, .slice none 0 0], .int .i64 6]) (by simp [results, Try.results36, go_sem, hcx1]) rfl (AtGives.none HE.out ((hb0.trans (hb1.mono (by simp))).setCell (p := ⟨w.heap.size, 0, none⟩) (Nat.le_refl _) _ |>.setCell (p := ⟨w.heap.size, 1, none⟩) (Nat.le_refl _) _))
  by_cases b2 : (l.length : Int) ≤ bt
  · have HE := Lib.hid (HO.out 6 (fun n m hn hm hh => by omega) rfl)
    go_enter Try.func36, Try.ntmps36
    go_wp2_with (go_at_call 39; refine HC.out.mono ?_; rintro e w1 ⟨rfl, hb1⟩; obtain ⟨gx1, hcx1, hfx1⟩ := own_box hb1 (by simp) hbx; have hl1 := hb1.size; have hlt1 := size_of_box gx1)
    exact bodyPost_ret (v := .tuple #[.agg #[.int .u8 0, .slice none 0 0], .int .i64 6]) (by simp [results, Try.results36, go_sem, hcx1]) rfl (AtGives.none HE.out ((hb0.trans (hb1.mono (by simp))).setCell (p := ⟨w.heap.size, 0, none⟩) (Nat.le_refl _) _ |>.setCell (p := ⟨w.heap.size, 1, none⟩) (Nat.le_refl _) _))
  obtain ⟨n, rfl⟩ : ∃ n : Nat, bt = n := ⟨bt.toNat, by omega⟩
  have hn : n < l.length := by omega
  obtain ⟨b, off, c0, d0, rfl, -, hbw, hc0, hd0, hx⟩ := RSl.at2 h n hn
  obtain ⟨a', cap', rfl, rfl, hl1, -, hI⟩ := hx.open
  by_cases b3 : k < 0
  · have HE := Lib.hid (HO.out 6 (fun n m hn hm hh => by omega) rfl)
    go_enter Try.func36, Try.ntmps36
    go_wp2_with (go_at_call 39; refine HC.out.mono ?_; rintro e w1 ⟨rfl, hb1⟩; obtain ⟨gx1, hcx1, hfx1⟩ := own_box hb1 (by simp) hbx; have hl1 := hb1.size; have hlt1 := size_of_box gx1)
    exact bodyPost_ret (v := .tuple #[.agg #[.int .u8 0, .slice none 0 0], .int .i64 6]) (by simp [results, Try.results36, go_sem, hcx1]) rfl (AtGives.none HE.out ((hb0.trans (hb1.mono (by simp))).setCell (p := ⟨w.heap.size, 0, none⟩) (Nat.le_refl _) _ |>.setCell (p := ⟨w.heap.size, 1, none⟩) (Nat.le_refl _) _))
  have hlen : l[n].blts.length ≤ 1000000 := (hsm.2 _ (List.getElem_mem hn)).1
  by_cases b4 : (l[n].blts.length : Int) ≤ k
  · have HE := Lib.hid (HO.out 6 (fun n' m hn' hm hh => by (obtain rfl : n' = n := (by omega)); omega) rfl)
    go_enter Try.func36, Try.ntmps36
    go_wp2_with (first | (go_at_call 39; refine HC.out.mono ?_; rintro e w1 ⟨rfl, hb1⟩; obtain ⟨gx1, hcx1, hfx1⟩ := own_box hb1 (by simp) hbx; have hl1 := hb1.size; have hlt1 := size_of_box gx1; have hd1 := (Same.of_below (S := Any) (hb0.trans (hb1.mono (by simp)))).cell trivial hd0))
    exact bodyPost_ret (v := .tuple #[.agg #[.int .u8 0, .slice none 0 0], .int .i64 6]) (by simp [results, Try.results36, go_sem, hcx1]) rfl (AtGives.none HE.out ((hb0.trans (hb1.mono (by simp))).setCell (p := ⟨w.heap.size, 0, none⟩) (Nat.le_refl _) _ |>.setCell (p := ⟨w.heap.size, 1, none⟩) (Nat.le_refl _) _))
  obtain ⟨m, rfl⟩ : ∃ m : Nat, k = m := ⟨k.toNat, by omega⟩
  have hm : m < l[n].blts.length := by omega
  obtain ⟨b2, off2, c2, d2, rfl, -, hbw2, hc2, hd2, hy⟩ := RSl.at2 hI m hm
  obtain ⟨hE1, hE2⟩ := HS.out n m rfl rfl hn hm
  have hmk : l[n].blts[m].marks.length ≤ 1000000 := (hsm.2 _ (List.getElem_mem hn)).2 _ (List.getElem_mem hm)
  have hCp : ∀ W, Below w.heap.size w W → Calls Try.prog 73 #[.agg #[c2, d2]] W fun e w' => ∃ d, e = .returned (.agg #[.int .u8 l[n].blts[m].kind, d]) ∧ wBlt (Span W.heap.size w'.heap.size) w' [.int .u8 l[n].blts[m].kind, d] l[n].blts[m] ∧ Below W.heap.size W w' :=
    fun W hW => copied2 S _ l[n].blts[m] W ⟨_, _, rfl, dBlt.stable S _ _ _ _ (.of_below hW) hy⟩ (by omega)
  obtain ⟨a2, cap2, rfl, rfl, -⟩ := hy.open
  have HCp := Lib.hid hCp; have HE1 := Lib.hid hE1; have HE2 := Lib.hid hE2; clear hCp hE1 hE2 hy hx hI
  go_enter Try.func36, Try.ntmps36
  go_wp2_with (first
    | (go_at_call 39; refine HC.out.mono ?_; rintro e w1 ⟨rfl, hb1⟩; obtain ⟨gx1, hcx1, hfx1⟩ := own_box hb1 (by simp) hbx; have hl1 := hb1.size; have hlt1 := size_of_box gx1; have hq1 : Below w.heap.size w w1 := hb0.trans (hb1.mono (by simp)); have hc1 := (Same.of_below (S := Any) hq1).cell trivial hc0; have hd1 := (Same.of_below (S := Any) hq1).cell trivial hd0; have hc3 := (Same.of_below (S := Any) hq1).cell trivial hc2; have hd3 := (Same.of_below (S := Any) hq1).cell trivial hd2)
    | (go_at_call 73; refine (HCp.out _ hq1).mono ?_; rintro e w2 ⟨d3, rfl, hv2, hb2⟩; obtain ⟨a4, c4, -, rfl, -⟩ := hv2.toD.open; obtain ⟨gx2, hcx2, hfx2⟩ := own_box hb2 hlt1 gx1; have hq2 := hq1.trans (hb2.mono hq1.size)))
  refine bodyPost_ret (v := .tuple #[.agg #[.int .u8 l[n].blts[m].kind, .slice a4 l[n].blts[m].marks.length c4], .int .i64 0]) (by simp [results, Try.results36, go_sem, hcx2]) rfl (AtGives.some (base := w1.heap.size) HE1.out HE2.out (x := l[n].blts[m]) ?_ (by omega) ((hq2.setCell (p := ⟨w.heap.size, 0, none⟩) (Nat.le_refl _) _).setCell (p := ⟨w.heap.size, 1, none⟩) (Nat.le_refl _) _))
  refine ⟨_, _, rfl, (wBlt.stable _ _ _ _ _ (((Same.refl _ _).setCell (p := ⟨w.heap.size, 0, none⟩) ?_ _).setCell (p := ⟨w.heap.size, 1, none⟩) ?_ _) hv2).mono fun b hb => hb.1⟩
  · exact fun hb => Nat.lt_irrefl _ (Nat.lt_of_lt_of_le hlt1 hb.1)
  · exact fun hb => Nat.lt_irrefl _ (Nat.lt_of_lt_of_le hlt1 hb.1)

end Go.Proofs.Ytkjgddcjhikdgaa

/- What the law RecordTells answers. -/
namespace Go.Proofs.Ytkjgddcjhikdgaa
open Go Go.RowKit

theorem recordSameT (S T : Nat → Prop) (u v : Value) (xs : List Btc) (w : World) (hx : RBtcs S w u xs) (hy : RBtcs T w v xs) :
    Calls Try.prog 44 #[u, v] w fun e w' => e = .returned (.bool true) ∧ Below w.heap.size w w' := by
  have := recordSame S T u v xs xs w hx hy
  rwa [eqL_refl eqBtc_refl] at this
/-- At, its ballot laid open. -/
def AtOpen (X : Blt) (I : Int) (w : World) (e : Ending) (w' : World) : Prop :=
  ∃ a n, e = .returned (.tuple #[.agg #[.int .u8 X.kind, .slice a X.marks.length n], .int .i64 I]) ∧ X.marks.length ≤ 140737488355328 ∧ wBlt (Span w.heap.size w'.heap.size) w' [.int .u8 X.kind, .slice a X.marks.length n] X ∧ Below w.heap.size w w'
theorem AtOpen.of {l : List Btc} {c kind bt k : Int} {X : Blt} {I : Int} {w w' : World} {e : Ending} (hX : bltAt l c kind bt k = X) (hI : answAt l c kind bt k = I) (h : AtGives l c kind bt k w e w') : AtOpen X I w e w' := by
  obtain ⟨v, he, ⟨c0, d0, rfl, hx⟩, hb⟩ := h
  rw [hX] at hx
  rw [hI] at he
  obtain ⟨a, n, rfl, rfl, hl, -, -, -⟩ := id hx.toD.open
  exact ⟨a, n, he, hl, hx.cut.mono (fun b hb => ⟨hb.1, hb.2⟩), hb⟩
end Go.Proofs.Ytkjgddcjhikdgaa
