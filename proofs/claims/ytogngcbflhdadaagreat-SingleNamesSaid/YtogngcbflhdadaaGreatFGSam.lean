/- Texts of one claim, put together: ArgP, Chain, SamO, SamP, WakB, SamQ, SamR, SamT. -/
import Derived.Test.YtogngcbflhdadaaGreatFGFoot
import Derived.Test.YtogngcbflhdadaaGreatProg
import Derived.Test.YtogngcbflhdadaaGreatFGProf
import Derived.Test.YtogngcbflhdadaaGreatFGOne
import Derived.Test.YtogngcbflhdadaaGreatFGNat
import Derived.Test.YtogngcbflhdadaaGreatFGNatR
import Derived.Test.YtogngcbflhdadaaGreatFGRul
import Derived.Test.YtogngcbflhdadaaGreatFGSin
import Derived.Test.YtogngcbflhdadaaGreatFGPut
import Derived.KernelRfl
import Derived.Lib.SmallJoins
import Derived.Handy

/- The arguments of the counting laws: profiles and rows of integers that read as data. -/
namespace Go.Proofs.YtogngcbflhdadaaGreat
open Go Go.RowKit Go.Deep Go.ChangeShapes Go.WideShapes Go.ChangeAt

theorem Tryz.cellsInt : Tryz.prog.cellsOf 3 = 1 := by kernel_rfl
theorem Tryz.bytesInt : Tryz.prog.bytesOf 3 = 8 := by kernel_rfl
theorem Tryz.cellsInts : Tryz.prog.cellsOf 25 = 1 := by kernel_rfl
theorem Tryz.cellsRow : Tryz.prog.cellsOf 50 = 2 := by kernel_rfl
theorem Tryz.bytesRow : Tryz.prog.bytesOf 50 = 32 := by kernel_rfl
theorem Tryz.cellsProf : Tryz.prog.cellsOf 24 = 3 := by kernel_rfl
theorem Tryz.own : ownKnob Tryz.prog.godebug = none := by kernel_rfl
theorem Tryz.laidOut : laidOutB Tryz.prog = true := by kernel_rfl

section
variable {H : Type} {enc : TypeId × Value → H} {w : World} {base : Nat} {spare : Nat → Bool} {held : Bool}
theorem wf_u8 {x : Int} (h : (Lit.int .u8 x).wf = true) : 0 ≤ x ∧ x ≤ 255 := by
  simp [Lit.wf, IntKind.min, IntKind.max, IntKind.bits, IntKind.signed] at h
  omega
theorem ints_of {fuel : Nat} {cs : List Value} {x : DataW H × List MemPlace} (h : DataW.trod enc Tryz.prog w base spare held fuel 25 cs = some x) (hz : ∀ m ∈ x.1.weights Tryz.prog 25, m ≤ reachBytes) : ∃ v xs, cs = [v] ∧ RInts Any w v xs :=
  rsl_of_trod Tryz.underlying25 Tryz.cellsInt (by omega) (by rw [Tryz.bytesInt]; omega) h hz (fun _ _ _ hy _ => int_of_trod Tryz.underlying3 hy)
set_option maxRecDepth 100000 in
theorem row_of {fuel : Nat} {cs : List Value} {x : DataW H × List MemPlace} (h : DataW.trod enc Tryz.prog w base spare held fuel 50 cs = some x) (hz : ∀ m ∈ x.1.weights Tryz.prog 50, m ≤ reachBytes) : ∃ a, dRow Any w cs a := by
  obtain ⟨y0, y1, n, rfl, hl, h0, h1⟩ := trod_struct2 Tryz.underlying50 h
  rw [Tryz.cellsRow] at hl
  match cs, hl with
  | [c, d], _ =>
    simp only [Tryz.cellsInt, Tryz.cellsInts, List.drop_zero, List.take_succ_cons, List.take_zero, List.drop_succ_cons] at h0 h1
    obtain ⟨v, xs, e0, hr⟩ := ints_of h0 (fun m hm => hz m (by simp [DataW.weights, Tryz.underlying50, DataW.weightsEach, hm]))
    obtain ⟨many, e1, hk⟩ := int_of_trod Tryz.underlying3 h1
    simp only [List.cons.injEq, and_true] at e0 e1
    subst e0 e1
    exact ⟨⟨xs, many⟩, _, rfl, hk, hr⟩
set_option maxRecDepth 100000 in
theorem arg_prof {b0 : Nat} {v : Value} {d : DataW H} {ps : List MemPlace} (hv : Value.okWide Tryz.prog w .any b0 24 v) (h : DataW.Trod enc Tryz.prog w base spare held 24 v d ps)
    (hz : ∀ m ∈ d.weights Tryz.prog 24, m ≤ reachBytes) : ∃ x, VProf Any w v x := by
  obtain ⟨v0, v1, v2, y0, y1, y2, n, rfl, rfl, rfl, h0, h1, h2⟩ := Go.Joins.open_agg3 Tryz.underlying24 (by kernel_rfl) Tryz.cellsProf hv h
  obtain ⟨cands, e0, -⟩ := int_of_trod Tryz.underlying3 h0
  obtain ⟨kind, e1, hk⟩ := int_of_trod Tryz.underlying5 h1
  obtain ⟨u2, xs, e2, hr⟩ := rsl_of_trod (α := Row) (dec := dRow Any) Tryz.underlying22 Tryz.cellsRow (by omega) (by rw [Tryz.bytesRow]; omega) h2
    (fun m hm => hz m (by simp [DataW.weights, Tryz.underlying24, DataW.weightsEach, hm])) (fun _ _ _ hy hm => row_of hy hm)
  simp only [List.cons.injEq, and_true] at e0 e1 e2
  subst e0 e1 e2
  obtain ⟨a, c, rfl, -, -⟩ := RSl.shape hr
  exact ⟨⟨cands, kind, xs⟩, a, c, rfl, (wf_u8 hk).1, (wf_u8 hk).2, hr⟩
set_option maxRecDepth 100000 in
theorem arg_ints {b0 : Nat} {v : Value} {d : DataW H} {ps : List MemPlace} (hv : Value.okWide Tryz.prog w .any b0 25 v) (h : DataW.Trod enc Tryz.prog w base spare held 25 v d ps)
    (hz : ∀ m ∈ d.weights Tryz.prog 25, m ≤ reachBytes) : ∃ xs, RInts Any w v xs := by
  obtain ⟨a, n, c, rfl⟩ := okWide_slice Tryz.underlying25 hv
  obtain ⟨fuel, hf⟩ := h
  obtain ⟨u, xs, e, hr⟩ := ints_of hf hz
  simp [Value.cells] at e
  exact ⟨xs, e ▸ hr⟩
end
theorem weights_at {H : Type} {P : Program} {ts : List TypeId} {ds : List (DataW H)} (hz : (DataW.weightsEach P ts ds).all (· ≤ reachBytes) = true) (j : Nat) {t : TypeId} {d : DataW H} (ht : ts[j]? = some t) (hd : ds[j]? = some d) : ∀ m ∈ d.weights P t, m ≤ reachBytes :=
  fun m hm => by simpa using List.all_eq_true.1 hz m (DataW.weights_mem_each ht hd m hm)
end Go.Proofs.YtogngcbflhdadaaGreat

/- Chains of worlds and blocks laid one behind another: small laws for straight walks. -/
namespace Go.Proofs.YtogngcbflhdadaaGreat
open Go Go.RowKit

theorem RSl.laidN {α : Type} {n : Nat} {dec : World → List Value → α → Prop} {w : World} {g : Nat} {cells : List Value} {e : TypeId} {xs : List α} {S : Nat → Prop} (hS : S g) (hg : w.heap[g]? = some (.cells cells.toArray e (0, 0))) (h : Dec n dec w cells xs) (hl : xs.length ≤ 1000000000) :
    RSl S n dec w (.slice (some ⟨g, 0, none⟩) xs.length xs.length) xs := by
  refine ⟨_, xs.length, cells, rfl, Nat.le_refl _, by omega, h, .inr ⟨g, 0, rfl, hS, fun j u hu => ?_⟩⟩
  rw [Nat.zero_add]
  simp only [World.cell?, hg]
  simpa using hu
theorem bt {A B C : World} (h : Below A.heap.size A B) (k : Below B.heap.size B C) : Below A.heap.size A C := h.trans (k.mono h.size)
theorem bel_st {B : Nat} {w W w' : World} (h : Below B w W) (hb : Below W.heap.size W w') (hB : B ≤ W.heap.size) : Below B w w' := h.trans (hb.mono hB)
/-- Blocks laid one behind another. -/
def lays (w : World) : List Obj → World
  | [] => w
  | o :: os => lays (w.alloc o) os
theorem lays_below : ∀ (os : List Obj) (w : World), Below w.heap.size w (lays w os)
  | [], w => Below.refl _ w
  | o :: os, w => (below_new w o).trans ((lays_below os (w.alloc o)).mono (by simp))
theorem lays_size : ∀ (os : List Obj) (w : World), (lays w os).heap.size = w.heap.size + os.length
  | [], _ => rfl
  | o :: os, w => by rw [lays, lays_size os, World.size_alloc, List.length_cons]; omega
theorem lays_get : ∀ (os : List Obj) (w : World) (j : Nat) {o : Obj}, os[j]? = some o → (lays w os).heap[w.heap.size + j]? = some o
  | o :: os, w, 0, _, h => by
    simp only [List.getElem?_cons_zero, Option.some.injEq] at h
    subst h
    exact ((lays_below os (w.alloc o)).block _ (by simp)).trans (box_new w o)
  | o :: os, w, j + 1, _, h => by
    have := lays_get os (w.alloc o) j (by simpa using h)
    rw [World.size_alloc, Nat.add_right_comm, Nat.add_assoc] at this
    exact this
/-- A laid block in a later world. -/
theorem lay_at {w W : World} {os : List Obj} (hb : Below (lays w os).heap.size (lays w os) W) (j : Nat) {o : Obj} (h : os[j]? = some o) : W.heap[w.heap.size + j]? = some o :=
  (hb.block _ (size_of_box (lays_get os w j h))).trans (lays_get os w j h)
theorem box3 {W w1 : World} {g : Nat} {a b c : Value} {e : TypeId} (hg : W.heap[g]? = some (.cells #[a, b, c] e (0, 0))) (hb : Below W.heap.size W w1) : w1.cell? ⟨g, 0, none⟩ = some a ∧ w1.cell? ⟨g, 1, none⟩ = some b ∧ w1.cell? ⟨g, 2, none⟩ = some c ∧ g < w1.heap.size := by
  obtain ⟨h1, h2, -⟩ := own_box hb (size_of_box hg) hg
  exact ⟨h2 0, h2 1, h2 2, size_of_box h1⟩
theorem litInts {W : World} {g : Nat} {e : TypeId} {xs : List Int} (h : W.heap[g]? = some (.cells (xs.map (Value.int .i64)).toArray e (0, 0))) (hw : ∀ x ∈ xs, (Lit.int .i64 x).wf = true) (hl : xs.length ≤ 1000000) : RInts Any W (.slice (some ⟨g, 0, none⟩) xs.length xs.length) xs :=
  Arr.all (k := .i64) (show Arr .i64 W g e xs from h) (S := Any) trivial hw (by omega) rfl (Nat.le_refl _)
theorem litTie {W : World} {g : Nat} {e : TypeId} {v : Value} {t : Tie} (h : W.heap[g]? = some (.cells #[v, .int .i64 t.chosen] e (0, 0))) (hw : (Lit.int .i64 t.chosen).wf = true) (hr : RInts Any W v t.among) : RTies Any W (.slice (some ⟨g, 0, none⟩) 1 1) [t] :=
  RSl.laidN (cells := [v, .int .i64 t.chosen]) (xs := [t]) trivial h (Dec.single rfl ⟨v, rfl, hw, hr⟩) (by simp)
theorem litRnd {W : World} {g : Nat} {e : TypeId} {v0 vn vd v1 v2 : Value} {x : Rnd} (h : W.heap[g]? = some (.cells #[v0, .bool x.lost.neg, vn, vd, v1, v2] e (0, 0))) (h0 : RRts Any W v0 x.had) (hn : RU Any W vn x.lost.num) (hd : RU Any W vd x.lost.den) (h1 : RInts Any W v1 x.elected) (h2 : RInts Any W v2 x.out) : RRnds Any W (.slice (some ⟨g, 0, none⟩) 1 1) [x] :=
  RSl.laidN (cells := [v0, .bool x.lost.neg, vn, vd, v1, v2]) (xs := [x]) trivial h (Dec.single rfl ⟨v0, vn, vd, v1, v2, rfl, h0, hn, hd, h1, h2⟩) (by simp)
end Go.Proofs.YtogngcbflhdadaaGreat

/- The contracts of the references' comparisons of ratios, rounds, ties and outcomes. -/
namespace Go.Proofs.YtogngcbflhdadaaGreat
open Go Go.RowKit Go.Shelf

def eqRt (x y : Rt) : Bool := decide (x.neg = y.neg) && (eqL eqInt x.num y.num && eqL eqInt x.den y.den)
theorem eqRt_refl (x : Rt) : eqRt x x = true := by simp [eqRt, eqL_refl (p := eqInt) (fun x => by simp [eqInt])]
set_option maxHeartbeats 1000000 in
theorem r04Same (S T : Nat → Prop) (u v : Value) (x y : Rt) (w : World) (hx : VRt S w u x) (hy : VRt T w v y) :
    Calls Tryz.prog 28 #[u, v] w fun e w' => e = .returned (.bool (eqRt x y)) ∧ Below w.heap.size w w' := by
  obtain ⟨xn, xd, rfl, hx1, hx2⟩ := hx
  obtain ⟨yn, yd, rfl, hy1, hy2⟩ := hy
  obtain ⟨a1, c1, rfl, -, -⟩ := RSl.shape hx1
  obtain ⟨a2, c2, rfl, -, -⟩ := RSl.shape hx2
  obtain ⟨a3, c3, rfl, -, -⟩ := RSl.shape hy1
  obtain ⟨a4, c4, rfl, -, -⟩ := RSl.shape hy2
  obtain ⟨W2, hW2⟩ : ∃ W2, W2 = (w.alloc (.cells #[.bool x.neg, .slice a1 x.num.length c1, .slice a2 x.den.length c2] 54)).alloc (.cells #[.bool y.neg, .slice a3 y.num.length c3, .slice a4 y.den.length c4] 54) := ⟨_, rfl⟩
  have hb0 : Below w.heap.size w W2 := by rw [hW2]; exact ((Below.refl _ _).alloc (Nat.le_refl _) _).alloc (by simp) _
  have hz2 : W2.heap.size = w.heap.size + 2 := by rw [hW2]; simp
  have g1 : W2.heap[w.heap.size]? = some (.cells #[.bool x.neg, .slice a1 x.num.length c1, .slice a2 x.den.length c2] 54 (0, 0)) := by rw [hW2]; exact box_old _ (box_new w _)
  have g2 : W2.heap[w.heap.size + 1]? = some (.cells #[.bool y.neg, .slice a3 y.num.length c3, .slice a4 y.den.length c4] 54 (0, 0)) := by
    have := box_new (w.alloc (.cells #[.bool x.neg, .slice a1 x.num.length c1, .slice a2 x.den.length c2] 54)) (.cells #[.bool y.neg, .slice a3 y.num.length c3, .slice a4 y.den.length c4] 54)
    rw [hW2]; rwa [World.size_alloc] at this
  have hA := r3Same S T _ _ _ _ W2 (hx1.same (.of_below hb0)) (hy1.same (.of_below hb0))
  have hB := fun W (hW : Below w.heap.size w W) => r3Same S T _ _ _ _ W (hx2.same (.of_below hW)) (hy2.same (.of_below hW))
  obtain ⟨p1, h1⟩ : ∃ p, eqL eqInt x.num y.num = p := ⟨_, rfl⟩
  obtain ⟨p2, h2⟩ : ∃ p, eqL eqInt x.den y.den = p := ⟨_, rfl⟩
  obtain ⟨R, hR⟩ : ∃ R, eqRt x y = R := ⟨_, rfl⟩
  have hR2 : R = (decide (x.neg = y.neg) && (p1 && p2)) := by rw [← hR, ← h1, ← h2]; rfl
  rw [h1] at hA
  rw [h2] at hB
  rw [hR]
  obtain ⟨n1, e1⟩ : ∃ n, x.neg = n := ⟨_, rfl⟩
  obtain ⟨n2, e2⟩ : ∃ n, y.neg = n := ⟨_, rfl⟩
  obtain ⟨m1, l1⟩ : ∃ n, x.num.length = n := ⟨_, rfl⟩
  obtain ⟨m2, l2⟩ : ∃ n, x.den.length = n := ⟨_, rfl⟩
  obtain ⟨m3, l3⟩ : ∃ n, y.num.length = n := ⟨_, rfl⟩
  obtain ⟨m4, l4⟩ : ∃ n, y.den.length = n := ⟨_, rfl⟩
  rw [e1, l1, l2] at g1 hW2 ⊢
  rw [e2, l3, l4] at g2 hW2 ⊢
  rw [l1, l3] at hA
  simp only [l2, l4] at hB
  rw [e1, e2] at hR2
  have hA2 := hA
  rw [hW2] at hA2
  have HA := Lib.hid hA2; have HB := Lib.hid hB; have G1 := Lib.hid g1; have G2 := Lib.hid g2; have HW2 := Lib.hid hW2; have Hb0 := Lib.hid hb0; have Hz2 := Lib.hid hz2
  clear hA hA2 hB g1 g2 hW2 hb0 hz2 hR h1 h2 e1 e2 l1 l2 l3 l4 hx1 hx2 hy1 hy2
  cases n1 <;> cases n2 <;> cases p1 <;> cases p2 <;> (
    simp at hR2
    subst hR2
    go_enter Tryz.func28, Tryz.ntmps28
    go_wp2_with (first
      | (go_at_call_of 59 (Value.slice a1 m1 c1); refine HA.out.mono ?_; rintro e w1 ⟨rfl, hb1⟩; rw [← HW2.out] at hb1; have hq1 := Hb0.out.trans (hb1.mono (by rw [Hz2.out]; omega)); obtain ⟨-, gc, -⟩ := own_box hb1 (by rw [Hz2.out]; omega) G1.out; obtain ⟨-, gd, -⟩ := own_box hb1 (by rw [Hz2.out]; omega) G2.out; have gc2 := gc 2; have gd2 := gd 2; have hlt1 := hb1.size; rw [Hz2.out] at hlt1; have hlt2 : w.heap.size < w1.heap.size := (by omega); have hlt3 : w.heap.size + 1 < w1.heap.size := (by omega); clear gc gd hb1)
      | (go_at_call_of 59 (Value.slice a2 m2 c2); refine (HB.out _ hq1).mono ?_; rintro e w2 ⟨rfl, hb2⟩; replace hq1 := hq1.trans (hb2.mono hq1.size)))
    go_ret
    first | exact ⟨rfl, hq1⟩ | exact ⟨rfl, by have := Hb0.out; rw [HW2.out] at this; exact this⟩)
/-- Comparing equal ones. -/
def GivesTrue (w : World) (e : Ending) (w' : World) : Prop := e = .returned (.bool true) ∧ Below w.heap.size w w'
set_option maxHeartbeats 1000000 in
theorem r04All_eq (S T : Nat → Prop) (u v : Value) (xs : List Rt) (w : World) (hx : RRts S w u xs) (hy : RRts T w v xs) : Calls Tryz.prog 85 #[u, v] w (GivesTrue w) := by
  obtain ⟨a1, cap1, rfl, hx1, hx2⟩ := RSl.shape hx
  obtain ⟨a2, cap2, rfl, hy1, hy2⟩ := RSl.shape hy
  obtain ⟨n, hn⟩ : ∃ n, xs.length = n := ⟨_, rfl⟩
  have hne : ((n : Int) != (n : Int)) = false := by simp
  rw [hn] at hx hy hx2 ⊢
  have HX := Lib.hid hx; have HY := Lib.hid hy; have Hn := Lib.hid hn
  clear hx hy hx1 hy1 hy2 hn
  go_enter Tryz.func85, Tryz.ntmps85
  go_wp2
  go_loopw [5] (fun i wr => ∃ k : Nat, k ≤ n ∧ i = .int .i64 k ∧ Below w.heap.size w wr) (fun i _ => n - (intOf i).toNat)
  case atStart => exact ⟨0, Nat.zero_le _, rfl, Below.refl _ _⟩
  case round =>
    obtain ⟨k, hk, rfl, hb⟩ := hrel
    have hz := hb.size
    by_cases hlt : k < n
    · have hlk : k < xs.length := by rw [Hn.out]; exact hlt
      obtain ⟨b, off, c, d, e, rfl, -, -, hc, hd, he, hx⟩ := RSl.at3 HX.out k hlk
      obtain ⟨b2, off2, c', d', e', rfl, -, -, hc', hd', he', hy⟩ := RSl.at3 HY.out k hlk
      have hF := fun W (hW : Below w.heap.size w W) => r04Same S T (.agg #[c, d, e]) (.agg #[c', d', e']) _ _ W (by obtain ⟨vn, vd, h1, h2, h3⟩ := dRt.stable _ _ W _ _ (.of_below hW) hx; simp only [List.cons.injEq, and_true] at h1; obtain ⟨rfl, rfl, rfl⟩ := h1; exact ⟨_, _, rfl, h2, h3⟩) (by obtain ⟨vn, vd, h1, h2, h3⟩ := dRt.stable _ _ W _ _ (.of_below hW) hy; simp only [List.cons.injEq, and_true] at h1; obtain ⟨rfl, rfl, rfl⟩ := h1; exact ⟨_, _, rfl, h2, h3⟩)
      simp only [eqRt_refl] at hF
      obtain ⟨k1, q1, k2, q2, rfl, rfl, rfl, -, -⟩ := hx.open
      obtain ⟨k3, q3, k4, q4, rfl, rfl, rfl, -, -⟩ := hy.open
      have hS := Same.of_below (S := Any) hb
      have e1 := fun p => cell_ext (w := wr) (hS.cell trivial hc) p
      have e2 := fun p => cell_ext (w := wr) (hS.cell trivial hd) p
      have e3 := fun p => cell_ext (w := wr) (hS.cell trivial he) p
      have e4 := fun p => cell_ext (w := wr) (hS.cell trivial hc') p
      have e5 := fun p => cell_ext (w := wr) (hS.cell trivial hd') p
      have e6 := fun p => cell_ext (w := wr) (hS.cell trivial he') p
      have hF1 := fun p => hF (ext wr p) (hb.trans ((below_ext wr p).mono hz))
      have HF := Lib.hid hF1
      clear hF hF1 hc hd he hc' hd' he' hx hy hS
      go_wp2
      refine wp_region_ext (by kernel_rfl) (by kernel_rfl) ?_
      repeat (go_big_quiet_step ((go_at_call 28; have hh := HF.out; exact calls_ext (v := .bool true) (hh _))))
      refine wpQuiet_nil ?_
      intro w2 hw'
      have hb12 : Below wr.heap.size wr w2 := by obtain ⟨p, rfl⟩ := hw'; exact below_ext wr p
      clear hw' e1 e2 e3 e4 e5 e6 HF
      have hb2 := hb.trans (hb12.mono hz)
      go_wp2
      exact ⟨⟨k + 1, by omega, by go_num, hb2⟩, by simp [intOf]; omega⟩
    · go_wp2
      go_ret
      exact ⟨rfl, hb⟩
end Go.Proofs.YtogngcbflhdadaaGreat

/- The contracts of the reference's comparisons of rounds, ties and outcomes, at equal ones. -/
namespace Go.Proofs.YtogngcbflhdadaaGreat
open Go Go.RowKit Go.Shelf

theorem ints_eq (S T : Nat → Prop) (u v : Value) (xs : List Int) (w : World) (hx : RInts S w u xs) (hy : RInts T w v xs) : Calls Tryz.prog 24 #[u, v] w (GivesTrue w) :=
  (ints08 S T u v xs xs w hx hy).mono fun e w' ⟨h1, h2⟩ => ⟨by rw [h1, eqL_refl (p := eqInt) (fun x => by simp [eqInt])], h2⟩
theorem r04Same_eq (S T : Nat → Prop) (u v : Value) (x : Rt) (w : World) (hx : VRt S w u x) (hy : VRt T w v x) : Calls Tryz.prog 28 #[u, v] w (GivesTrue w) :=
  (r04Same S T u v x x w hx hy).mono fun e w' ⟨h1, h2⟩ => ⟨by rw [h1, eqRt_refl], h2⟩
theorem dRnd.open {S : Nat → Prop} {w : World} {c0 c1 c2 c3 c4 c5 : Value} {x : Rnd} (h : dRnd S w [c0, c1, c2, c3, c4, c5] x) :
    ∃ a0 m0 k0 a2 m2 k2 a3 m3 k3 a4 m4 k4 a5 m5 k5, c0 = .slice a0 m0 k0 ∧ c1 = .bool x.lost.neg ∧ c2 = .slice a2 m2 k2 ∧ c3 = .slice a3 m3 k3 ∧ c4 = .slice a4 m4 k4 ∧ c5 = .slice a5 m5 k5 ∧
      RRts S w (.slice a0 m0 k0) x.had ∧ VRt S w (.agg #[.bool x.lost.neg, .slice a2 m2 k2, .slice a3 m3 k3]) x.lost ∧ RInts S w (.slice a4 m4 k4) x.elected ∧ RInts S w (.slice a5 m5 k5) x.out := by
  obtain ⟨v0, vn, vd, v1, v2, h1, h2, h3, h4, h5, h6⟩ := h
  simp only [List.cons.injEq, and_true] at h1
  obtain ⟨rfl, rfl, rfl, rfl, rfl, rfl⟩ := h1
  obtain ⟨a0, k0, rfl, -, -⟩ := RSl.shape h2
  obtain ⟨a2, k2, rfl, -, -⟩ := RSl.shape h3
  obtain ⟨a3, k3, rfl, -, -⟩ := RSl.shape h4
  obtain ⟨a4, k4, rfl, -, -⟩ := RSl.shape h5
  obtain ⟨a5, k5, rfl, -, -⟩ := RSl.shape h6
  exact ⟨_, _, _, _, _, _, _, _, _, _, _, _, _, _, _, rfl, rfl, rfl, rfl, rfl, rfl, h2, ⟨_, _, rfl, h3, h4⟩, h5, h6⟩
set_option maxHeartbeats 2000000 in
set_option maxRecDepth 100000 in
theorem r11Rounds_eq (S T : Nat → Prop) (u v : Value) (xs : List Rnd) (w : World) (hx : RRnds S w u xs) (hy : RRnds T w v xs) : Calls Tryz.prog 54 #[u, v] w (GivesTrue w) := by
  obtain ⟨a1, cap1, rfl, hx1, hx2⟩ := RSl.shape hx
  obtain ⟨a2, cap2, rfl, hy1, hy2⟩ := RSl.shape hy
  obtain ⟨n, hn⟩ : ∃ n, xs.length = n := ⟨_, rfl⟩
  have hne : ((n : Int) != (n : Int)) = false := by simp
  rw [hn] at hx hy hx2 ⊢
  have HX := Lib.hid hx; have HY := Lib.hid hy; have Hn := Lib.hid hn
  clear hx hy hx1 hy1 hy2 hn
  go_enter Tryz.func54, Tryz.ntmps54
  go_wp2
  go_loopw [5] (fun i wr => ∃ k : Nat, k ≤ n ∧ i = .int .i64 k ∧ Below w.heap.size w wr) (fun i _ => n - (intOf i).toNat)
  case atStart => exact ⟨0, Nat.zero_le _, rfl, Below.refl _ _⟩
  case round =>
    obtain ⟨k, hk, rfl, hb⟩ := hrel
    have hz := hb.size
    by_cases hlt : k < n
    · have hlk : k < xs.length := by rw [Hn.out]; exact hlt
      obtain ⟨b, off, c0, c1, c2, c3, c4, c5, rfl, -, -, x0, x1, x2, x3, x4, x5, hx⟩ := RSl.at6 HX.out k hlk
      obtain ⟨b', off', d0, d1, d2, d3, d4, d5, rfl, -, -, y0, y1, y2, y3, y4, y5, hy⟩ := RSl.at6 HY.out k hlk
      obtain ⟨p0, m0, q0, p2, m2, q2, p3, m3, q3, p4, m4, q4, p5, m5, q5, rfl, rfl, rfl, rfl, rfl, rfl, hx0, hx2, hx4, hx5⟩ := hx.open
      obtain ⟨s0, n0, t0, s2, n2, t2, s3, n3, t3, s4, n4, t4, s5, n5, t5, rfl, rfl, rfl, rfl, rfl, rfl, hy0, hy2, hy4, hy5⟩ := hy.open
      have hF0 := fun p => r04All_eq S T _ _ _ (ext wr p) (hx0.same (.of_below (hb.trans ((below_ext wr p).mono hz)))) (hy0.same (.of_below (hb.trans ((below_ext wr p).mono hz))))
      have hF2 := fun p => r04Same_eq S T _ _ _ (ext wr p) (hx2.same (.of_below (hb.trans ((below_ext wr p).mono hz)))) (hy2.same (.of_below (hb.trans ((below_ext wr p).mono hz))))
      have hF4 := fun p => ints_eq S T _ _ _ (ext wr p) (hx4.same (.of_below (hb.trans ((below_ext wr p).mono hz)))) (hy4.same (.of_below (hb.trans ((below_ext wr p).mono hz))))
      have hF5 := fun p => ints_eq S T _ _ _ (ext wr p) (hx5.same (.of_below (hb.trans ((below_ext wr p).mono hz)))) (hy5.same (.of_below (hb.trans ((below_ext wr p).mono hz))))
      obtain ⟨ng, hng⟩ : ∃ g, xs[k].lost.neg = g := ⟨_, rfl⟩
      rw [hng] at x1 y1 hF2
      have hS := Same.of_below (S := Any) hb
      have e0 := fun p => cell_ext (w := wr) (hS.cell trivial x0) p
      have e1 := fun p => cell_ext (w := wr) (hS.cell trivial x1) p
      have e2 := fun p => cell_ext (w := wr) (hS.cell trivial x2) p
      have e3 := fun p => cell_ext (w := wr) (hS.cell trivial x3) p
      have e4 := fun p => cell_ext (w := wr) (hS.cell trivial x4) p
      have e5 := fun p => cell_ext (w := wr) (hS.cell trivial x5) p
      have f0 := fun p => cell_ext (w := wr) (hS.cell trivial y0) p
      have f1 := fun p => cell_ext (w := wr) (hS.cell trivial y1) p
      have f2 := fun p => cell_ext (w := wr) (hS.cell trivial y2) p
      have f3 := fun p => cell_ext (w := wr) (hS.cell trivial y3) p
      have f4 := fun p => cell_ext (w := wr) (hS.cell trivial y4) p
      have f5 := fun p => cell_ext (w := wr) (hS.cell trivial y5) p
      have HF0 := Lib.hid hF0; have HF2 := Lib.hid hF2; have HF4 := Lib.hid hF4; have HF5 := Lib.hid hF5
      clear hF0 hF2 hF4 hF5 x0 x1 x2 x3 x4 x5 y0 y1 y2 y3 y4 y5 hx hy hx0 hx2 hx4 hx5 hy0 hy2 hy4 hy5 hng hS
      go_wp2
      refine wp_region_ext (by kernel_rfl) (by kernel_rfl) ?_
      repeat (go_big_quiet_step ((first
        | (go_at_call 85; have hh := HF0.out; exact calls_ext (v := .bool true) (hh _))
        | (go_at_call 28; have hh := HF2.out; exact calls_ext (v := .bool true) (hh _))
        | (go_at_call_of 24 (Value.slice p4 m4 q4); have hh := HF4.out; exact calls_ext (v := .bool true) (hh _))
        | (go_at_call_of 24 (Value.slice p5 m5 q5); have hh := HF5.out; exact calls_ext (v := .bool true) (hh _)))))
      refine wpQuiet_nil ?_
      intro w2 hw'
      have hb12 : Below wr.heap.size wr w2 := by obtain ⟨p, rfl⟩ := hw'; exact below_ext wr p
      clear hw' e0 e1 e2 e3 e4 e5 f0 f1 f2 f3 f4 f5 HF0 HF2 HF4 HF5
      have hb2 := hb.trans (hb12.mono hz)
      go_wp2
      exact ⟨⟨k + 1, by omega, by go_num, hb2⟩, by simp [intOf]; omega⟩
    · go_wp2
      go_ret
      exact ⟨rfl, hb⟩
set_option maxHeartbeats 1000000 in
theorem r11Ties_eq (S T : Nat → Prop) (u v : Value) (xs : List Tie) (w : World) (hx : RTies S w u xs) (hy : RTies T w v xs) : Calls Tryz.prog 55 #[u, v] w (GivesTrue w) := by
  obtain ⟨a1, cap1, rfl, hx1, hx2⟩ := RSl.shape hx
  obtain ⟨a2, cap2, rfl, hy1, hy2⟩ := RSl.shape hy
  obtain ⟨n, hn⟩ : ∃ n, xs.length = n := ⟨_, rfl⟩
  have hne : ((n : Int) != (n : Int)) = false := by simp
  rw [hn] at hx hy hx2 ⊢
  have HX := Lib.hid hx; have HY := Lib.hid hy; have Hn := Lib.hid hn
  clear hx hy hx1 hy1 hy2 hn
  go_enter Tryz.func55, Tryz.ntmps55
  go_wp2
  go_loopw [5] (fun i wr => ∃ k : Nat, k ≤ n ∧ i = .int .i64 k ∧ Below w.heap.size w wr) (fun i _ => n - (intOf i).toNat)
  case atStart => exact ⟨0, Nat.zero_le _, rfl, Below.refl _ _⟩
  case round =>
    obtain ⟨k, hk, rfl, hb⟩ := hrel
    have hz := hb.size
    by_cases hlt : k < n
    · have hlk : k < xs.length := by rw [Hn.out]; exact hlt
      obtain ⟨b, off, c, d, rfl, -, -, hc, hd, hx⟩ := RSl.at2 HX.out k hlk
      obtain ⟨b2, off2, c', d', rfl, -, -, hc', hd', hy⟩ := RSl.at2 HY.out k hlk
      obtain ⟨k1, q1, rfl, rfl, -, -, hI⟩ := hx.open
      obtain ⟨k2, q2, rfl, rfl, -, -, hJ⟩ := hy.open
      have hF := fun p => ints_eq S T _ _ _ (ext wr p) (hI.same (.of_below (hb.trans ((below_ext wr p).mono hz)))) (hJ.same (.of_below (hb.trans ((below_ext wr p).mono hz))))
      obtain ⟨ch, hch⟩ : ∃ c, xs[k].chosen = c := ⟨_, rfl⟩
      obtain ⟨ml, hml⟩ : ∃ m, xs[k].among.length = m := ⟨_, rfl⟩
      rw [hch] at hd hd'
      rw [hml] at hc hc' hF
      have hS := Same.of_below (S := Any) hb
      have e1 := fun p => cell_ext (w := wr) (hS.cell trivial hc) p
      have e2 := fun p => cell_ext (w := wr) (hS.cell trivial hd) p
      have e4 := fun p => cell_ext (w := wr) (hS.cell trivial hc') p
      have e5 := fun p => cell_ext (w := wr) (hS.cell trivial hd') p
      have hcc : (ch != ch) = false := by simp
      have HF := Lib.hid hF
      clear hF hc hd hc' hd' hx hy hI hJ hch hml hS
      go_wp2
      refine wp_region_ext (by kernel_rfl) (by kernel_rfl) ?_
      repeat (go_big_quiet_step ((go_at_call 24; have hh := HF.out; exact calls_ext (v := .bool true) (hh _))))
      refine wpQuiet_nil ?_
      intro w2 hw'
      have hb12 : Below wr.heap.size wr w2 := by obtain ⟨p, rfl⟩ := hw'; exact below_ext wr p
      clear hw' e1 e2 e4 e5 HF
      have hb2 := hb.trans (hb12.mono hz)
      go_wp2
      exact ⟨⟨k + 1, by omega, by go_num, hb2⟩, by simp [intOf]; omega⟩
    · go_wp2
      go_ret
      exact ⟨rfl, hb⟩
set_option maxHeartbeats 1000000 in
theorem r11Same_eq (S T : Nat → Prop) (u v : Value) (o : Outc) (w : World) (hx : VOutc S w u o) (hy : VOutc T w v o) : Calls Tryz.prog 22 #[u, v] w (GivesTrue w) := by
  obtain ⟨u1, u2, u3, rfl, hx1, hx2, hx3⟩ := hx
  obtain ⟨v1, v2, v3, rfl, hy1, hy2, hy3⟩ := hy
  obtain ⟨a1, m1, c1, rfl⟩ := RSl.slice hx1
  obtain ⟨a2, m2, c2, rfl⟩ := RSl.slice hx2
  obtain ⟨a3, m3, c3, rfl⟩ := RSl.slice hx3
  obtain ⟨b1, n1, d1, rfl⟩ := RSl.slice hy1
  obtain ⟨b2, n2, d2, rfl⟩ := RSl.slice hy2
  obtain ⟨b3, n3, d3, rfl⟩ := RSl.slice hy3
  obtain ⟨W2, hW2⟩ : ∃ W2, W2 = (w.alloc (.cells #[.slice a1 m1 c1, .slice a2 m2 c2, .slice a3 m3 c3] 32)).alloc (.cells #[.slice b1 n1 d1, .slice b2 n2 d2, .slice b3 n3 d3] 32) := ⟨_, rfl⟩
  have hb0 : Below w.heap.size w W2 := by rw [hW2]; exact ((Below.refl _ _).alloc (Nat.le_refl _) _).alloc (by simp) _
  have hz2 : W2.heap.size = w.heap.size + 2 := by rw [hW2]; simp
  have g1 : W2.heap[w.heap.size]? = some (.cells #[.slice a1 m1 c1, .slice a2 m2 c2, .slice a3 m3 c3] 32 (0, 0)) := by rw [hW2]; exact box_old _ (box_new w _)
  have g2 : W2.heap[w.heap.size + 1]? = some (.cells #[.slice b1 n1 d1, .slice b2 n2 d2, .slice b3 n3 d3] 32 (0, 0)) := by
    have := box_new (w.alloc (.cells #[.slice a1 m1 c1, .slice a2 m2 c2, .slice a3 m3 c3] 32)) (.cells #[.slice b1 n1 d1, .slice b2 n2 d2, .slice b3 n3 d3] 32)
    rw [hW2]; rwa [World.size_alloc] at this
  have hA := ints_eq S T _ _ _ W2 (hx1.same (.of_below hb0)) (hy1.same (.of_below hb0))
  have hB := fun W (hW : Below w.heap.size w W) => r11Rounds_eq S T _ _ _ W (hx2.same (.of_below hW)) (hy2.same (.of_below hW))
  have hC := fun W (hW : Below w.heap.size w W) => r11Ties_eq S T _ _ _ W (hx3.same (.of_below hW)) (hy3.same (.of_below hW))
  rw [hW2] at hA
  have HA := Lib.hid hA; have HB := Lib.hid hB; have HC := Lib.hid hC; have G1 := Lib.hid g1; have G2 := Lib.hid g2; have HW2 := Lib.hid hW2; have Hb0 := Lib.hid hb0; have Hz2 := Lib.hid hz2
  clear hA hB hC g1 g2 hW2 hb0 hz2 hx1 hx2 hx3 hy1 hy2 hy3
  go_enter Tryz.func22, Tryz.ntmps22
  go_wp2_with (first
    | (go_at_call 24; refine HA.out.mono ?_; rintro e w1 ⟨rfl, hb1⟩; rw [← HW2.out] at hb1; have hq1 := Hb0.out.trans (hb1.mono (by rw [Hz2.out]; omega)); obtain ⟨r1, gc, -⟩ := own_box hb1 (by rw [Hz2.out]; omega) G1.out; obtain ⟨r2, gd, -⟩ := own_box hb1 (by rw [Hz2.out]; omega) G2.out; have gc1 := gc 1; have gd1 := gd 1; have hlt1 := hb1.size; rw [Hz2.out] at hlt1; have hlt2 : w.heap.size < w1.heap.size := (by omega); have hlt3 : w.heap.size + 1 < w1.heap.size := (by omega); have R1 := Lib.hid r1; have R2 := Lib.hid r2; clear gc gd hb1 r1 r2)
    | (go_at_call 54; refine (HB.out _ hq1).mono ?_; rintro e w2 ⟨rfl, hb2⟩; replace hq1 := hq1.trans (hb2.mono hq1.size); obtain ⟨-, gc, -⟩ := own_box hb2 hlt2 R1.out; obtain ⟨-, gd, -⟩ := own_box hb2 hlt3 R2.out; have gc2 := gc 2; have gd2 := gd 2; have hz2 := hb2.size; have hlt4 : w.heap.size < w2.heap.size := (by omega); have hlt5 : w.heap.size + 1 < w2.heap.size := (by omega); clear gc gd)
    | (go_at_call 55; refine (HC.out _ hq1).mono ?_; rintro e w3 ⟨rfl, hb3⟩; replace hq1 := hq1.trans (hb3.mono hq1.size)))
  go_ret
  exact ⟨rfl, hq1⟩
end Go.Proofs.YtogngcbflhdadaaGreat

/- The walk of chapter 11's wakes (printed by genwak.py). -/
namespace Go.Proofs.YtogngcbflhdadaaGreat
open Go Go.RowKit Go.Shelf

theorem rrow1 {W : World} {v : Value} {r : Row} (h : RInts Any W v r.marks) (hw : (Lit.int .i64 r.many).wf = true) : Dec 2 (dRow Any) W [v, .int .i64 r.many] [r] := Dec.single rfl ⟨v, rfl, hw, h⟩
/-- What the examples read as. -/
theorem wak_lays (w : World) : VProf Any (lays w [.cells #[.int .i64 0] 3, .cells #[.int .i64 0, .int .i64 1] 3, .cells #[.int .i64 1] 3, .cells #[.slice (some ⟨w.heap.size, 0, none⟩) 1 1, .int .i64 3, .slice (some ⟨w.heap.size + 1, 0, none⟩) 2 2, .int .i64 1, .slice (some ⟨w.heap.size + 2, 0, none⟩) 1 1, .int .i64 3] 50, .cells #[.int .i64 2, .int .u8 2, .slice (some ⟨w.heap.size + 3, 0, none⟩) 3 3] 24, .cells #[.int .i64 0, .int .i64 1, .int .i64 2] 3, .cells #[.int .i64 1, .int .i64 2, .int .i64 0] 3, .cells #[.slice (some ⟨w.heap.size + 5, 0, none⟩) 3 3, .int .i64 2, .slice (some ⟨w.heap.size + 6, 0, none⟩) 3 3, .int .i64 3] 50, .cells #[.int .i64 3, .int .u8 1, .slice (some ⟨w.heap.size + 7, 0, none⟩) 2 2] 24, .cells #[.int .i64 1, .int .i64 0] 3]) (.agg #[.int .i64 2, .int .u8 2, .slice (some ⟨w.heap.size + 3, 0, none⟩) 3 3]) exP ∧ VProf Any (lays w [.cells #[.int .i64 0] 3, .cells #[.int .i64 0, .int .i64 1] 3, .cells #[.int .i64 1] 3, .cells #[.slice (some ⟨w.heap.size, 0, none⟩) 1 1, .int .i64 3, .slice (some ⟨w.heap.size + 1, 0, none⟩) 2 2, .int .i64 1, .slice (some ⟨w.heap.size + 2, 0, none⟩) 1 1, .int .i64 3] 50, .cells #[.int .i64 2, .int .u8 2, .slice (some ⟨w.heap.size + 3, 0, none⟩) 3 3] 24, .cells #[.int .i64 0, .int .i64 1, .int .i64 2] 3, .cells #[.int .i64 1, .int .i64 2, .int .i64 0] 3, .cells #[.slice (some ⟨w.heap.size + 5, 0, none⟩) 3 3, .int .i64 2, .slice (some ⟨w.heap.size + 6, 0, none⟩) 3 3, .int .i64 3] 50, .cells #[.int .i64 3, .int .u8 1, .slice (some ⟨w.heap.size + 7, 0, none⟩) 2 2] 24, .cells #[.int .i64 1, .int .i64 0] 3]) (.agg #[.int .i64 3, .int .u8 1, .slice (some ⟨w.heap.size + 7, 0, none⟩) 2 2]) exQ ∧ RInts Any (lays w [.cells #[.int .i64 0] 3, .cells #[.int .i64 0, .int .i64 1] 3, .cells #[.int .i64 1] 3, .cells #[.slice (some ⟨w.heap.size, 0, none⟩) 1 1, .int .i64 3, .slice (some ⟨w.heap.size + 1, 0, none⟩) 2 2, .int .i64 1, .slice (some ⟨w.heap.size + 2, 0, none⟩) 1 1, .int .i64 3] 50, .cells #[.int .i64 2, .int .u8 2, .slice (some ⟨w.heap.size + 3, 0, none⟩) 3 3] 24, .cells #[.int .i64 0, .int .i64 1, .int .i64 2] 3, .cells #[.int .i64 1, .int .i64 2, .int .i64 0] 3, .cells #[.slice (some ⟨w.heap.size + 5, 0, none⟩) 3 3, .int .i64 2, .slice (some ⟨w.heap.size + 6, 0, none⟩) 3 3, .int .i64 3] 50, .cells #[.int .i64 3, .int .u8 1, .slice (some ⟨w.heap.size + 7, 0, none⟩) 2 2] 24, .cells #[.int .i64 1, .int .i64 0] 3]) (.slice (some ⟨w.heap.size + 9, 0, none⟩) 2 2) [1, 0] := by
  obtain ⟨W0, hW0⟩ : ∃ W0, W0 = lays w [.cells #[.int .i64 0] 3, .cells #[.int .i64 0, .int .i64 1] 3, .cells #[.int .i64 1] 3, .cells #[.slice (some ⟨w.heap.size, 0, none⟩) 1 1, .int .i64 3, .slice (some ⟨w.heap.size + 1, 0, none⟩) 2 2, .int .i64 1, .slice (some ⟨w.heap.size + 2, 0, none⟩) 1 1, .int .i64 3] 50, .cells #[.int .i64 2, .int .u8 2, .slice (some ⟨w.heap.size + 3, 0, none⟩) 3 3] 24, .cells #[.int .i64 0, .int .i64 1, .int .i64 2] 3, .cells #[.int .i64 1, .int .i64 2, .int .i64 0] 3, .cells #[.slice (some ⟨w.heap.size + 5, 0, none⟩) 3 3, .int .i64 2, .slice (some ⟨w.heap.size + 6, 0, none⟩) 3 3, .int .i64 3] 50, .cells #[.int .i64 3, .int .u8 1, .slice (some ⟨w.heap.size + 7, 0, none⟩) 2 2] 24, .cells #[.int .i64 1, .int .i64 0] 3] := ⟨_, rfl⟩
  have g0 : W0.heap[w.heap.size + 0]? = some (.cells #[.int .i64 0] 3 (0, 0)) := by rw [hW0]; exact lays_get _ w 0 rfl
  have g1 : W0.heap[w.heap.size + 1]? = some (.cells #[.int .i64 0, .int .i64 1] 3 (0, 0)) := by rw [hW0]; exact lays_get _ w 1 rfl
  have g2 : W0.heap[w.heap.size + 2]? = some (.cells #[.int .i64 1] 3 (0, 0)) := by rw [hW0]; exact lays_get _ w 2 rfl
  have g3 : W0.heap[w.heap.size + 3]? = some (.cells #[.slice (some ⟨w.heap.size, 0, none⟩) 1 1, .int .i64 3, .slice (some ⟨w.heap.size + 1, 0, none⟩) 2 2, .int .i64 1, .slice (some ⟨w.heap.size + 2, 0, none⟩) 1 1, .int .i64 3] 50 (0, 0)) := by rw [hW0]; exact lays_get _ w 3 rfl
  have g4 : W0.heap[w.heap.size + 4]? = some (.cells #[.int .i64 2, .int .u8 2, .slice (some ⟨w.heap.size + 3, 0, none⟩) 3 3] 24 (0, 0)) := by rw [hW0]; exact lays_get _ w 4 rfl
  have g5 : W0.heap[w.heap.size + 5]? = some (.cells #[.int .i64 0, .int .i64 1, .int .i64 2] 3 (0, 0)) := by rw [hW0]; exact lays_get _ w 5 rfl
  have g6 : W0.heap[w.heap.size + 6]? = some (.cells #[.int .i64 1, .int .i64 2, .int .i64 0] 3 (0, 0)) := by rw [hW0]; exact lays_get _ w 6 rfl
  have g7 : W0.heap[w.heap.size + 7]? = some (.cells #[.slice (some ⟨w.heap.size + 5, 0, none⟩) 3 3, .int .i64 2, .slice (some ⟨w.heap.size + 6, 0, none⟩) 3 3, .int .i64 3] 50 (0, 0)) := by rw [hW0]; exact lays_get _ w 7 rfl
  have g8 : W0.heap[w.heap.size + 8]? = some (.cells #[.int .i64 3, .int .u8 1, .slice (some ⟨w.heap.size + 7, 0, none⟩) 2 2] 24 (0, 0)) := by rw [hW0]; exact lays_get _ w 8 rfl
  have g9 : W0.heap[w.heap.size + 9]? = some (.cells #[.int .i64 1, .int .i64 0] 3 (0, 0)) := by rw [hW0]; exact lays_get _ w 9 rfl
  have r0 : RInts Any W0 (.slice (some ⟨w.heap.size, 0, none⟩) 1 1) [0] := litInts (xs := [0]) g0 (by decide) (by decide)
  have r1 : RInts Any W0 (.slice (some ⟨w.heap.size + 1, 0, none⟩) 2 2) [0, 1] := litInts (xs := [0, 1]) g1 (by decide) (by decide)
  have r2 : RInts Any W0 (.slice (some ⟨w.heap.size + 2, 0, none⟩) 1 1) [1] := litInts (xs := [1]) g2 (by decide) (by decide)
  have r5 : RInts Any W0 (.slice (some ⟨w.heap.size + 5, 0, none⟩) 3 3) [0, 1, 2] := litInts (xs := [0, 1, 2]) g5 (by decide) (by decide)
  have r6 : RInts Any W0 (.slice (some ⟨w.heap.size + 6, 0, none⟩) 3 3) [1, 2, 0] := litInts (xs := [1, 2, 0]) g6 (by decide) (by decide)
  have r9 : RInts Any W0 (.slice (some ⟨w.heap.size + 9, 0, none⟩) 2 2) [1, 0] := litInts (xs := [1, 0]) g9 (by decide) (by decide)
  rw [← hW0]
  have rp : RRows Any W0 (.slice (some ⟨w.heap.size + 3, 0, none⟩) 3 3) exP.rows := RSl.laidN (cells := [.slice (some ⟨w.heap.size, 0, none⟩) 1 1, .int .i64 3] ++ ([.slice (some ⟨w.heap.size + 1, 0, none⟩) 2 2, .int .i64 1] ++ [.slice (some ⟨w.heap.size + 2, 0, none⟩) 1 1, .int .i64 3])) (xs := ([⟨[0], 3⟩] : List Row) ++ (([⟨[0, 1], 1⟩] : List Row) ++ ([⟨[1], 3⟩] : List Row))) trivial g3 (Dec.append (rrow1 (r := ⟨[0], 3⟩) r0 (by decide)) (Dec.append (rrow1 (r := ⟨[0, 1], 1⟩) r1 (by decide)) (rrow1 (r := ⟨[1], 3⟩) r2 (by decide)))) (by decide)
  have rq : RRows Any W0 (.slice (some ⟨w.heap.size + 7, 0, none⟩) 2 2) exQ.rows := RSl.laidN (cells := [.slice (some ⟨w.heap.size + 5, 0, none⟩) 3 3, .int .i64 2] ++ [.slice (some ⟨w.heap.size + 6, 0, none⟩) 3 3, .int .i64 3]) (xs := ([⟨[0, 1, 2], 2⟩] : List Row) ++ ([⟨[1, 2, 0], 3⟩] : List Row)) trivial g7 (Dec.append (rrow1 (r := ⟨[0, 1, 2], 2⟩) r5 (by decide)) (rrow1 (r := ⟨[1, 2, 0], 3⟩) r6 (by decide))) (by decide)
  exact ⟨⟨_, 3, rfl, by decide, by decide, rp⟩, ⟨_, 2, rfl, by decide, by decide, rq⟩, r9⟩
theorem whole1 : whole 1 = ⟨false, [1], [1]⟩ := (whole_nat 1).trans (by rw [lim1])
theorem whole0 : whole 0 = ⟨false, [], [1]⟩ := (whole_nat 0).trans (by rw [Limb.lim_zero])
theorem exO1_eq : exO1 = ⟨[1], [⟨[3, 3].map whole, ⟨false, [1], [1]⟩, [1], []⟩], [⟨[0, 1], 1⟩]⟩ := by rw [exO1, whole1]
theorem exO2_eq : exO2 = ⟨[1], [⟨[4, 4].map whole, ⟨false, [], [1]⟩, [1], []⟩], [⟨[0, 1], 1⟩]⟩ := by rw [exO2, whole0]
theorem exO3_eq : exO3 = ⟨[1], [⟨[4, 8, 3].map whole, ⟨false, [], [1]⟩, [1], []⟩], []⟩ := by rw [exO3, whole0]
theorem wh1 (W : World) : Calls Tryz.prog 29 #[.int .i64 1] W fun e w' => ∃ a c a' c', e = .returned (.agg #[.bool false, .slice a 1 c, .slice a' 1 c']) ∧ RU (From W.heap.size) w' (.slice a 1 c) [1] ∧ RU (From W.heap.size) w' (.slice a' 1 c') [1] ∧ Below W.heap.size W w' := by
  have := r4Whole 1 W (by omega)
  unfold GivesW at this
  rw [lim1] at this
  exact this
theorem wh0 (W : World) : Calls Tryz.prog 29 #[.int .i64 0] W fun e w' => ∃ a c a' c', e = .returned (.agg #[.bool false, .slice a 0 c, .slice a' 1 c']) ∧ RU (From W.heap.size) w' (.slice a 0 c) [] ∧ RU (From W.heap.size) w' (.slice a' 1 c') [1] ∧ Below W.heap.size W w' := by
  have := r4Whole 0 W (by omega)
  unfold GivesW at this
  rw [Limb.lim_zero] at this
  exact this
set_option maxHeartbeats 8000000 in
set_option maxRecDepth 100000 in
theorem wakes11 (w : World) : Calls Tryz.prog 12 #[] w fun e w' => e = .returned (.bool true) ∧ Below w.heap.size w w' := by
  obtain ⟨hp, hq, hl⟩ := wak_lays w
  obtain ⟨W0, hW0⟩ : ∃ W0, W0 = lays w [.cells #[.int .i64 0] 3, .cells #[.int .i64 0, .int .i64 1] 3, .cells #[.int .i64 1] 3, .cells #[.slice (some ⟨w.heap.size, 0, none⟩) 1 1, .int .i64 3, .slice (some ⟨w.heap.size + 1, 0, none⟩) 2 2, .int .i64 1, .slice (some ⟨w.heap.size + 2, 0, none⟩) 1 1, .int .i64 3] 50, .cells #[.int .i64 2, .int .u8 2, .slice (some ⟨w.heap.size + 3, 0, none⟩) 3 3] 24, .cells #[.int .i64 0, .int .i64 1, .int .i64 2] 3, .cells #[.int .i64 1, .int .i64 2, .int .i64 0] 3, .cells #[.slice (some ⟨w.heap.size + 5, 0, none⟩) 3 3, .int .i64 2, .slice (some ⟨w.heap.size + 6, 0, none⟩) 3 3, .int .i64 3] 50, .cells #[.int .i64 3, .int .u8 1, .slice (some ⟨w.heap.size + 7, 0, none⟩) 2 2] 24, .cells #[.int .i64 1, .int .i64 0] 3] := ⟨_, rfl⟩
  have g4 : W0.heap[w.heap.size + 4]? = some (.cells #[.int .i64 2, .int .u8 2, .slice (some ⟨w.heap.size + 3, 0, none⟩) 3 3] 24 (0, 0)) := by rw [hW0]; exact lays_get _ w 4 rfl
  have g8 : W0.heap[w.heap.size + 8]? = some (.cells #[.int .i64 3, .int .u8 1, .slice (some ⟨w.heap.size + 7, 0, none⟩) 2 2] 24 (0, 0)) := by rw [hW0]; exact lays_get _ w 8 rfl
  have hbW : Below w.heap.size w W0 := by rw [hW0]; exact lays_below _ w
  rw [← hW0] at hp hq hl
  have h1 := fun (W : World) (hW : Below W0.heap.size W0 W) => (sinPlurality Any Any (.agg #[.int .i64 2, .int .u8 2, .slice (some ⟨w.heap.size + 3, 0, none⟩) 3 3]) _ exP 1 [1, 0] W (hp.same (.of_below hW)) (hl.same (.of_below hW)) (by decide)).mono fun e w' hh => GivesSI.open hh
  simp only [ex1, ex1v] at h1
  have h2 := fun (W : World) (hW : Below W0.heap.size W0 W) => (sinApproval Any Any (.agg #[.int .i64 2, .int .u8 2, .slice (some ⟨w.heap.size + 3, 0, none⟩) 3 3]) _ exP 1 [1, 0] W (hp.same (.of_below hW)) (hl.same (.of_below hW)) (by decide)).mono fun e w' hh => GivesSI.open hh
  simp only [ex2, ex2v] at h2
  have h3 := fun (W : World) (hW : Below W0.heap.size W0 W) (v : Value) (hv : RInts Any W v [0, 1, 2]) => (sinBorda Any Any (.agg #[.int .i64 3, .int .u8 1, .slice (some ⟨w.heap.size + 7, 0, none⟩) 2 2]) _ exQ 1 [0, 1, 2] W (hq.same (.of_below hW)) hv (by decide)).mono fun e w' hh => GivesSI.open hh
  simp only [ex3, ex3v] at h3
  have h4 := fun (W : World) (hW : Below W0.heap.size W0 W) => (sinPlurality Any Any (.agg #[.int .i64 3, .int .u8 1, .slice (some ⟨w.heap.size + 7, 0, none⟩) 2 2]) _ exQ 1 [1, 0] W (hq.same (.of_below hW)) (hl.same (.of_below hW)) (by decide)).mono fun e w' hh => GivesSI.open hh
  simp only [ex4] at h4
  have h5 := fun (W : World) (hW : Below W0.heap.size W0 W) => (sinPlurality Any Any (.agg #[.int .i64 2, .int .u8 2, .slice (some ⟨w.heap.size + 3, 0, none⟩) 3 3]) _ exP 3 [1, 0] W (hp.same (.of_below hW)) (hl.same (.of_below hW)) (by decide)).mono fun e w' hh => GivesSI.open hh
  simp only [ex5] at h5
  have h6 := fun (W : World) (hW : Below W0.heap.size W0 W) (v : Value) (hv : RInts Any W v [1, 1]) => (sinPlurality Any Any (.agg #[.int .i64 2, .int .u8 2, .slice (some ⟨w.heap.size + 3, 0, none⟩) 3 3]) _ exP 1 [1, 1] W (hp.same (.of_below hW)) hv (by decide)).mono fun e w' hh => GivesSI.open hh
  simp only [ex6] at h6
  have h7 := fun (W : World) (v : Value) (hv : RInts Any W v [0]) => (sinScore Any Any (.agg #[.int .i64 1, .int .u8 3, .slice none 0 0]) v exN 1 [0] W ⟨_, 0, rfl, by decide, by decide, RSl.nil⟩ hv (by decide)).mono fun e w' hh => GivesSI.open hh
  simp only [ex7, ex7v] at h7
  have h1e := h1 W0 (Below.refl _ _)
  rw [hW0] at h1e
  have HP1 := Lib.hid h1e; have HP2 := Lib.hid h2; have HP3 := Lib.hid h3; have HP4 := Lib.hid h4; have HP5 := Lib.hid h5; have HP6 := Lib.hid h6; have HP7 := Lib.hid h7
  have HW0 := Lib.hid hW0; have G4 := Lib.hid g4; have G8 := Lib.hid g8; have HbW := Lib.hid hbW
  have HWh1 := Lib.hid wh1; have HWh0 := Lib.hid wh0
  have st0 := Lib.hid True.intro
  clear h1 h1e h2 h3 h4 h5 h6 h7 hp hq hl hW0 g4 g8 hbW
  go_enter Tryz.func12, Tryz.ntmps12
  go_wp2_with (first
    | (have := st16; go_at_call 24; clear st16; have q1 := (bt C8.out (bt C9.out (bt C10.out (bt C11.out (bt C12.out (bt C13.out (bt C14.out (bt C15.out C16.out)))))))); have z1 := q1.size; refine (ints_eq Any Any _ _ [0] (w16.alloc (.cells #[.int .i64 0] 3)) (HE7.out.same (.of_below (by go_grown))) (litInts (xs := [0]) (lays_get [.cells #[.int .i64 0] 3] w16 0 rfl) (by decide) (by decide))).mono ?_; rintro e w17 ⟨rfl, hb⟩; have C17 := Lib.hid (bel_st (B := w16.heap.size) (w := w16) (by go_grown) hb (by go_size)); replace q0 := bt q0 C17.out; replace hsz := q0.size; clear q1 z1 x7a x7b x7c x7l; obtain ⟨x8a, x8b, x8c, x8l⟩ := box3 GB7.out (bt C9.out (bt C10.out (bt C11.out (bt C12.out (bt C13.out (bt C14.out (bt C15.out (bt C16.out C17.out)))))))); clear hb; have st17 := Lib.hid True.intro; clear this)
    | (have := st15; go_at_call 22; clear st15; have q1 := (bt C4.out (bt C5.out (bt C6.out (bt C7.out (bt C8.out (bt C9.out (bt C10.out (bt C11.out (bt C12.out (bt C13.out (bt C14.out C15.out))))))))))); have q2 := C15.out; have z1 := q1.size; have z2 := q2.size; refine (r11Same_eq Any Any _ _ exO3 _ (HV3.out.same (.of_below (by go_grown))) (HO14.out.same (.of_below (by go_grown)))).mono ?_; rintro e w16 ⟨rfl, hb⟩; have C16 := Lib.hid (bel_st (B := w15.heap.size) (w := w15) (by go_grown) hb (by go_size)); replace q0 := bt q0 C16.out; replace hsz := q0.size; clear q1 q2 z1 z2; clear x3a x3b x3c x3l y3a y3b y3c y3l; obtain ⟨x7a, x7b, x7c, x7l⟩ := box3 GB7.out (bt C9.out (bt C10.out (bt C11.out (bt C12.out (bt C13.out (bt C14.out (bt C15.out C16.out))))))); clear hb; have st16 := Lib.hid True.intro; clear this)
    | (have := st14; go_at_call 22; clear st14; have q1 := (bt C3.out (bt C4.out (bt C5.out (bt C6.out (bt C7.out (bt C8.out (bt C9.out (bt C10.out (bt C11.out (bt C12.out (bt C13.out C14.out))))))))))); have q2 := (bt C13.out C14.out); have z1 := q1.size; have z2 := q2.size; refine (r11Same_eq Any Any _ _ exO2 _ (HV2.out.same (.of_below (by go_grown))) (HO12.out.same (.of_below (by go_grown)))).mono ?_; rintro e w15 ⟨rfl, hb⟩; have C15 := Lib.hid (bel_st (B := w14.heap.size) (w := w14) (by go_grown) hb (by go_size)); replace q0 := bt q0 C15.out; replace hsz := q0.size; clear q1 q2 z1 z2; clear x2a x2b x2c x2l y2a y2b y2c y2l; obtain ⟨x3a, x3b, x3c, x3l⟩ := box3 GB3.out (bt C5.out (bt C6.out (bt C7.out (bt C8.out (bt C9.out (bt C10.out (bt C11.out (bt C12.out (bt C13.out (bt C14.out C15.out)))))))))); obtain ⟨y3a, y3b, y3c, y3l⟩ := box3 GO14.out C15.out; clear hb; have st15 := Lib.hid True.intro; clear this)
    | (have := st13; go_at_call 22; clear st13; have q1 := (bt C2.out (bt C3.out (bt C4.out (bt C5.out (bt C6.out (bt C7.out (bt C8.out (bt C9.out (bt C10.out (bt C11.out (bt C12.out C13.out))))))))))); have q2 := (bt C11.out (bt C12.out C13.out)); have z1 := q1.size; have z2 := q2.size; refine (r11Same_eq Any Any _ _ exO1 _ (HV1.out.same (.of_below (by go_grown))) (HO10.out.same (.of_below (by go_grown)))).mono ?_; rintro e w14 ⟨rfl, hb⟩; have C14 := Lib.hid (bel_st (B := w13.heap.size) (w := w13) (by go_grown) hb (by go_size)); replace q0 := bt q0 C14.out; replace hsz := q0.size; clear q1 q2 z1 z2; have HE14a := Lib.hid (litInts (W := w14) (g := w13.heap.size + 0) (xs := [1]) (lay_at (w := w13) (os := [.cells #[.int .i64 1] 3, .cells #[.slice ra12 rm12 rk12, .bool false, .slice d13 0 e13, .slice f13 1 h13, .slice (some ⟨w13.heap.size, 0, none⟩) 1 1, .slice none 0 0] 67, .cells #[.slice (some ⟨w11.heap.size + 3, 0, none⟩) 1 1, .slice (some ⟨w13.heap.size + 1, 0, none⟩) 1 1, .slice none 0 0] 32]) hb 0 rfl) (by decide) (by decide)); have HQ14 := Lib.hid (litRnd (W := w14) (g := w13.heap.size + 1) (x := ⟨[4, 8, 3].map whole, ⟨false, [], [1]⟩, [1], []⟩) (lay_at (w := w13) (os := [.cells #[.int .i64 1] 3, .cells #[.slice ra12 rm12 rk12, .bool false, .slice d13 0 e13, .slice f13 1 h13, .slice (some ⟨w13.heap.size, 0, none⟩) 1 1, .slice none 0 0] 67, .cells #[.slice (some ⟨w11.heap.size + 3, 0, none⟩) 1 1, .slice (some ⟨w13.heap.size + 1, 0, none⟩) 1 1, .slice none 0 0] 32]) hb 1 rfl) (HR12.out.same (.of_below (bt C13.out C14.out))) (HN13.out.same (.of_below C14.out)) (HD13.out.same (.of_below C14.out)) HE14a.out RSl.nil); have GO14 := Lib.hid (show w14.heap[w13.heap.size + 2]? = some (.cells #[.slice (some ⟨w11.heap.size + 3, 0, none⟩) 1 1, .slice (some ⟨w13.heap.size + 1, 0, none⟩) 1 1, .slice none 0 0] 32 (0, 0)) from lay_at (w := w13) (os := [.cells #[.int .i64 1] 3, .cells #[.slice ra12 rm12 rk12, .bool false, .slice d13 0 e13, .slice f13 1 h13, .slice (some ⟨w13.heap.size, 0, none⟩) 1 1, .slice none 0 0] 67, .cells #[.slice (some ⟨w11.heap.size + 3, 0, none⟩) 1 1, .slice (some ⟨w13.heap.size + 1, 0, none⟩) 1 1, .slice none 0 0] 32]) hb 2 rfl); have HO14 := Lib.hid ((by rw [exO3_eq]; exact ⟨_, _, _, rfl, (HE12.out.same (.of_below (bt C13.out C14.out))), HQ14.out, RSl.nil⟩) : VOutc Any w14 (.agg #[.slice (some ⟨w11.heap.size + 3, 0, none⟩) 1 1, .slice (some ⟨w13.heap.size + 1, 0, none⟩) 1 1, .slice none 0 0]) exO3); clear x1a x1b x1c x1l y1a y1b y1c y1l; obtain ⟨x2a, x2b, x2c, x2l⟩ := box3 GB2.out (bt C4.out (bt C5.out (bt C6.out (bt C7.out (bt C8.out (bt C9.out (bt C10.out (bt C11.out (bt C12.out (bt C13.out C14.out)))))))))); obtain ⟨y2a, y2b, y2c, y2l⟩ := box3 GO12.out (bt C13.out C14.out); clear hb; have st14 := Lib.hid True.intro; clear this)
    | (have := st12; go_at_call 29; clear st12; refine (HWh0.out _).mono ?_; rintro e w13 ⟨d13, e13, f13, h13, rfl, kn, kd, hb⟩; have C13 := Lib.hid (bel_st (B := w12.heap.size) (w := w12) (by go_grown) hb (by go_size)); replace q0 := bt q0 C13.out; replace hsz := q0.size; have HN13 := Lib.hid (RU.mono (fun _ _ => trivial) kn : RU Any w13 _ _); have HD13 := Lib.hid (RU.mono (fun _ _ => trivial) kd : RU Any w13 _ _); clear kn kd; obtain ⟨x1a, x1b, x1c, x1l⟩ := box3 GB1.out (bt C3.out (bt C4.out (bt C5.out (bt C6.out (bt C7.out (bt C8.out (bt C9.out (bt C10.out (bt C11.out (bt C12.out C13.out)))))))))); have x1l1 := Nat.lt_succ_of_lt x1l; have x1l2 := Nat.lt_succ_of_lt x1l1; obtain ⟨y1a, y1b, y1c, y1l⟩ := box3 GO10.out (bt C11.out (bt C12.out C13.out)); have y1l1 := Nat.lt_succ_of_lt y1l; have y1l2 := Nat.lt_succ_of_lt y1l1; clear hb; have st13 := Lib.hid True.intro; clear this)
    | (have := st11; go_at_call 44; clear st11; refine (r11Wholes Any _ [4, 8, 3] (((((w11.alloc (.cells #[.int .i64 1] 3)).alloc (.cells #[.slice ra10 rm10 rk10, .bool false, .slice d11 0 e11, .slice f11 1 h11, .slice (some ⟨w11.heap.size, 0, none⟩) 1 1, .slice none 0 0] 67)).alloc (.cells #[.slice (some ⟨w9.heap.size + 3, 0, none⟩) 1 1, .slice (some ⟨w11.heap.size + 1, 0, none⟩) 1 1, .slice (some ⟨w7.heap.size + 2, 0, none⟩) 1 1] 32)).alloc (.cells #[.int .i64 1] 3)).alloc (.cells #[.int .i64 4, .int .i64 8, .int .i64 3] 3)) (litInts (xs := [4, 8, 3]) (lays_get [.cells #[.int .i64 1] 3, .cells #[.slice ra10 rm10 rk10, .bool false, .slice d11 0 e11, .slice f11 1 h11, .slice (some ⟨w11.heap.size, 0, none⟩) 1 1, .slice none 0 0] 67, .cells #[.slice (some ⟨w9.heap.size + 3, 0, none⟩) 1 1, .slice (some ⟨w11.heap.size + 1, 0, none⟩) 1 1, .slice (some ⟨w7.heap.size + 2, 0, none⟩) 1 1] 32, .cells #[.int .i64 1] 3, .cells #[.int .i64 4, .int .i64 8, .int .i64 3] 3] w11 4 rfl) (by decide) (by decide)) (by decide) (by decide)).mono ?_; rintro e w12 ⟨v12, rfl, ho, hb⟩; have C12 := Lib.hid (bel_st (B := w11.heap.size) (w := w11) (by go_grown) hb (by go_size)); replace q0 := bt q0 C12.out; replace hsz := q0.size; have HE12a := Lib.hid (litInts (W := w12) (g := w11.heap.size + 0) (xs := [1]) (lay_at (w := w11) (os := [.cells #[.int .i64 1] 3, .cells #[.slice ra10 rm10 rk10, .bool false, .slice d11 0 e11, .slice f11 1 h11, .slice (some ⟨w11.heap.size, 0, none⟩) 1 1, .slice none 0 0] 67, .cells #[.slice (some ⟨w9.heap.size + 3, 0, none⟩) 1 1, .slice (some ⟨w11.heap.size + 1, 0, none⟩) 1 1, .slice (some ⟨w7.heap.size + 2, 0, none⟩) 1 1] 32, .cells #[.int .i64 1] 3, .cells #[.int .i64 4, .int .i64 8, .int .i64 3] 3]) hb 0 rfl) (by decide) (by decide)); have HQ12 := Lib.hid (litRnd (W := w12) (g := w11.heap.size + 1) (x := ⟨[4, 4].map whole, ⟨false, [], [1]⟩, [1], []⟩) (lay_at (w := w11) (os := [.cells #[.int .i64 1] 3, .cells #[.slice ra10 rm10 rk10, .bool false, .slice d11 0 e11, .slice f11 1 h11, .slice (some ⟨w11.heap.size, 0, none⟩) 1 1, .slice none 0 0] 67, .cells #[.slice (some ⟨w9.heap.size + 3, 0, none⟩) 1 1, .slice (some ⟨w11.heap.size + 1, 0, none⟩) 1 1, .slice (some ⟨w7.heap.size + 2, 0, none⟩) 1 1] 32, .cells #[.int .i64 1] 3, .cells #[.int .i64 4, .int .i64 8, .int .i64 3] 3]) hb 1 rfl) (HR10.out.same (.of_below (bt C11.out C12.out))) (HN11.out.same (.of_below C12.out)) (HD11.out.same (.of_below C12.out)) HE12a.out RSl.nil); have GO12 := Lib.hid (show w12.heap[w11.heap.size + 2]? = some (.cells #[.slice (some ⟨w9.heap.size + 3, 0, none⟩) 1 1, .slice (some ⟨w11.heap.size + 1, 0, none⟩) 1 1, .slice (some ⟨w7.heap.size + 2, 0, none⟩) 1 1] 32 (0, 0)) from lay_at (w := w11) (os := [.cells #[.int .i64 1] 3, .cells #[.slice ra10 rm10 rk10, .bool false, .slice d11 0 e11, .slice f11 1 h11, .slice (some ⟨w11.heap.size, 0, none⟩) 1 1, .slice none 0 0] 67, .cells #[.slice (some ⟨w9.heap.size + 3, 0, none⟩) 1 1, .slice (some ⟨w11.heap.size + 1, 0, none⟩) 1 1, .slice (some ⟨w7.heap.size + 2, 0, none⟩) 1 1] 32, .cells #[.int .i64 1] 3, .cells #[.int .i64 4, .int .i64 8, .int .i64 3] 3]) hb 2 rfl); have HO12 := Lib.hid ((by rw [exO2_eq]; exact ⟨_, _, _, rfl, (HE10.out.same (.of_below (bt C11.out C12.out))), HQ12.out, (HT.out.same (.of_below (bt C9.out (bt C10.out (bt C11.out C12.out)))))⟩) : VOutc Any w12 (.agg #[.slice (some ⟨w9.heap.size + 3, 0, none⟩) 1 1, .slice (some ⟨w11.heap.size + 1, 0, none⟩) 1 1, .slice (some ⟨w7.heap.size + 2, 0, none⟩) 1 1]) exO2); have HE12 := Lib.hid (litInts (W := w12) (g := w11.heap.size + 3) (xs := [1]) (lay_at (w := w11) (os := [.cells #[.int .i64 1] 3, .cells #[.slice ra10 rm10 rk10, .bool false, .slice d11 0 e11, .slice f11 1 h11, .slice (some ⟨w11.heap.size, 0, none⟩) 1 1, .slice none 0 0] 67, .cells #[.slice (some ⟨w9.heap.size + 3, 0, none⟩) 1 1, .slice (some ⟨w11.heap.size + 1, 0, none⟩) 1 1, .slice (some ⟨w7.heap.size + 2, 0, none⟩) 1 1] 32, .cells #[.int .i64 1] 3, .cells #[.int .i64 4, .int .i64 8, .int .i64 3] 3]) hb 3 rfl) (by decide) (by decide)); obtain ⟨ra12, rm12, rk12, rfl⟩ := Own.slice ho; have HR12 := Lib.hid (show RRts Any w12 (.slice ra12 rm12 rk12) _ from RSl.mono (fun _ _ _ h => dRt.mono (fun _ _ => trivial) h) (fun _ _ => trivial) (OwnX.rsl famRt (by omega) ho (by decide))); clear ho; clear hb; have st12 := Lib.hid True.intro; clear this)
    | (have := st10; go_at_call 29; clear st10; refine (HWh0.out _).mono ?_; rintro e w11 ⟨d11, e11, f11, h11, rfl, kn, kd, hb⟩; have C11 := Lib.hid (bel_st (B := w10.heap.size) (w := w10) (by go_grown) hb (by go_size)); replace q0 := bt q0 C11.out; replace hsz := q0.size; have HN11 := Lib.hid (RU.mono (fun _ _ => trivial) kn : RU Any w11 _ _); have HD11 := Lib.hid (RU.mono (fun _ _ => trivial) kd : RU Any w11 _ _); clear kn kd; clear hb; have st11 := Lib.hid True.intro; clear this)
    | (have := st9; go_at_call 44; clear st9; refine (r11Wholes Any _ [4, 4] (((((w9.alloc (.cells #[.int .i64 1] 3)).alloc (.cells #[.slice ra8 rm8 rk8, .bool false, .slice d9 1 e9, .slice f9 1 h9, .slice (some ⟨w9.heap.size, 0, none⟩) 1 1, .slice none 0 0] 67)).alloc (.cells #[.slice (some ⟨w7.heap.size + 3, 0, none⟩) 1 1, .slice (some ⟨w9.heap.size + 1, 0, none⟩) 1 1, .slice (some ⟨w7.heap.size + 2, 0, none⟩) 1 1] 32)).alloc (.cells #[.int .i64 1] 3)).alloc (.cells #[.int .i64 4, .int .i64 4] 3)) (litInts (xs := [4, 4]) (lays_get [.cells #[.int .i64 1] 3, .cells #[.slice ra8 rm8 rk8, .bool false, .slice d9 1 e9, .slice f9 1 h9, .slice (some ⟨w9.heap.size, 0, none⟩) 1 1, .slice none 0 0] 67, .cells #[.slice (some ⟨w7.heap.size + 3, 0, none⟩) 1 1, .slice (some ⟨w9.heap.size + 1, 0, none⟩) 1 1, .slice (some ⟨w7.heap.size + 2, 0, none⟩) 1 1] 32, .cells #[.int .i64 1] 3, .cells #[.int .i64 4, .int .i64 4] 3] w9 4 rfl) (by decide) (by decide)) (by decide) (by decide)).mono ?_; rintro e w10 ⟨v10, rfl, ho, hb⟩; have C10 := Lib.hid (bel_st (B := w9.heap.size) (w := w9) (by go_grown) hb (by go_size)); replace q0 := bt q0 C10.out; replace hsz := q0.size; have HE10a := Lib.hid (litInts (W := w10) (g := w9.heap.size + 0) (xs := [1]) (lay_at (w := w9) (os := [.cells #[.int .i64 1] 3, .cells #[.slice ra8 rm8 rk8, .bool false, .slice d9 1 e9, .slice f9 1 h9, .slice (some ⟨w9.heap.size, 0, none⟩) 1 1, .slice none 0 0] 67, .cells #[.slice (some ⟨w7.heap.size + 3, 0, none⟩) 1 1, .slice (some ⟨w9.heap.size + 1, 0, none⟩) 1 1, .slice (some ⟨w7.heap.size + 2, 0, none⟩) 1 1] 32, .cells #[.int .i64 1] 3, .cells #[.int .i64 4, .int .i64 4] 3]) hb 0 rfl) (by decide) (by decide)); have HQ10 := Lib.hid (litRnd (W := w10) (g := w9.heap.size + 1) (x := ⟨[3, 3].map whole, ⟨false, [1], [1]⟩, [1], []⟩) (lay_at (w := w9) (os := [.cells #[.int .i64 1] 3, .cells #[.slice ra8 rm8 rk8, .bool false, .slice d9 1 e9, .slice f9 1 h9, .slice (some ⟨w9.heap.size, 0, none⟩) 1 1, .slice none 0 0] 67, .cells #[.slice (some ⟨w7.heap.size + 3, 0, none⟩) 1 1, .slice (some ⟨w9.heap.size + 1, 0, none⟩) 1 1, .slice (some ⟨w7.heap.size + 2, 0, none⟩) 1 1] 32, .cells #[.int .i64 1] 3, .cells #[.int .i64 4, .int .i64 4] 3]) hb 1 rfl) (HR8.out.same (.of_below (bt C9.out C10.out))) (HN9.out.same (.of_below C10.out)) (HD9.out.same (.of_below C10.out)) HE10a.out RSl.nil); have GO10 := Lib.hid (show w10.heap[w9.heap.size + 2]? = some (.cells #[.slice (some ⟨w7.heap.size + 3, 0, none⟩) 1 1, .slice (some ⟨w9.heap.size + 1, 0, none⟩) 1 1, .slice (some ⟨w7.heap.size + 2, 0, none⟩) 1 1] 32 (0, 0)) from lay_at (w := w9) (os := [.cells #[.int .i64 1] 3, .cells #[.slice ra8 rm8 rk8, .bool false, .slice d9 1 e9, .slice f9 1 h9, .slice (some ⟨w9.heap.size, 0, none⟩) 1 1, .slice none 0 0] 67, .cells #[.slice (some ⟨w7.heap.size + 3, 0, none⟩) 1 1, .slice (some ⟨w9.heap.size + 1, 0, none⟩) 1 1, .slice (some ⟨w7.heap.size + 2, 0, none⟩) 1 1] 32, .cells #[.int .i64 1] 3, .cells #[.int .i64 4, .int .i64 4] 3]) hb 2 rfl); have HO10 := Lib.hid ((by rw [exO1_eq]; exact ⟨_, _, _, rfl, (HE8.out.same (.of_below (bt C9.out C10.out))), HQ10.out, (HT.out.same (.of_below (bt C9.out C10.out)))⟩) : VOutc Any w10 (.agg #[.slice (some ⟨w7.heap.size + 3, 0, none⟩) 1 1, .slice (some ⟨w9.heap.size + 1, 0, none⟩) 1 1, .slice (some ⟨w7.heap.size + 2, 0, none⟩) 1 1]) exO1); have HE10 := Lib.hid (litInts (W := w10) (g := w9.heap.size + 3) (xs := [1]) (lay_at (w := w9) (os := [.cells #[.int .i64 1] 3, .cells #[.slice ra8 rm8 rk8, .bool false, .slice d9 1 e9, .slice f9 1 h9, .slice (some ⟨w9.heap.size, 0, none⟩) 1 1, .slice none 0 0] 67, .cells #[.slice (some ⟨w7.heap.size + 3, 0, none⟩) 1 1, .slice (some ⟨w9.heap.size + 1, 0, none⟩) 1 1, .slice (some ⟨w7.heap.size + 2, 0, none⟩) 1 1] 32, .cells #[.int .i64 1] 3, .cells #[.int .i64 4, .int .i64 4] 3]) hb 3 rfl) (by decide) (by decide)); obtain ⟨ra10, rm10, rk10, rfl⟩ := Own.slice ho; have HR10 := Lib.hid (show RRts Any w10 (.slice ra10 rm10 rk10) _ from RSl.mono (fun _ _ _ h => dRt.mono (fun _ _ => trivial) h) (fun _ _ => trivial) (OwnX.rsl famRt (by omega) ho (by decide))); clear ho; clear hb; have st10 := Lib.hid True.intro; clear this)
    | (have := st8; go_at_call 29; clear st8; refine (HWh1.out _).mono ?_; rintro e w9 ⟨d9, e9, f9, h9, rfl, kn, kd, hb⟩; have C9 := Lib.hid (bel_st (B := w8.heap.size) (w := w8) (by go_grown) hb (by go_size)); replace q0 := bt q0 C9.out; replace hsz := q0.size; have HN9 := Lib.hid (RU.mono (fun _ _ => trivial) kn : RU Any w9 _ _); have HD9 := Lib.hid (RU.mono (fun _ _ => trivial) kd : RU Any w9 _ _); clear kn kd; clear hb; have st9 := Lib.hid True.intro; clear this)
    | (have := st7; go_at_call 44; clear st7; refine (r11Wholes Any _ [3, 3] (((((w7.alloc (.cells #[.slice b71 m71 c71, .slice b72 m72 c72, .slice b73 0 c73] 32)).alloc (.cells #[.int .i64 0, .int .i64 1] 3)).alloc (.cells #[.slice (some ⟨w7.heap.size + 1, 0, none⟩) 2 2, .int .i64 1] 72)).alloc (.cells #[.int .i64 1] 3)).alloc (.cells #[.int .i64 3, .int .i64 3] 3)) (litInts (xs := [3, 3]) (lays_get [.cells #[.slice b71 m71 c71, .slice b72 m72 c72, .slice b73 0 c73] 32, .cells #[.int .i64 0, .int .i64 1] 3, .cells #[.slice (some ⟨w7.heap.size + 1, 0, none⟩) 2 2, .int .i64 1] 72, .cells #[.int .i64 1] 3, .cells #[.int .i64 3, .int .i64 3] 3] w7 4 rfl) (by decide) (by decide)) (by decide) (by decide)).mono ?_; rintro e w8 ⟨v8, rfl, ho, hb⟩; have C8 := Lib.hid (bel_st (B := w7.heap.size) (w := w7) (by go_grown) hb (by go_size)); replace q0 := bt q0 C8.out; replace hsz := q0.size; have GB7 := Lib.hid (show w8.heap[w7.heap.size]? = some (.cells #[.slice b71 m71 c71, .slice b72 m72 c72, .slice b73 0 c73] 32 (0, 0)) from lay_at (w := w7) (os := [.cells #[.slice b71 m71 c71, .slice b72 m72 c72, .slice b73 0 c73] 32, .cells #[.int .i64 0, .int .i64 1] 3, .cells #[.slice (some ⟨w7.heap.size + 1, 0, none⟩) 2 2, .int .i64 1] 72, .cells #[.int .i64 1] 3, .cells #[.int .i64 3, .int .i64 3] 3]) hb 0 rfl); have HL0 := Lib.hid (litInts (W := w8) (g := w7.heap.size + 1) (xs := [0, 1]) (lay_at (w := w7) (os := [.cells #[.slice b71 m71 c71, .slice b72 m72 c72, .slice b73 0 c73] 32, .cells #[.int .i64 0, .int .i64 1] 3, .cells #[.slice (some ⟨w7.heap.size + 1, 0, none⟩) 2 2, .int .i64 1] 72, .cells #[.int .i64 1] 3, .cells #[.int .i64 3, .int .i64 3] 3]) hb 1 rfl) (by decide) (by decide)); have HT := Lib.hid (litTie (W := w8) (g := w7.heap.size + 2) (t := ⟨[0, 1], 1⟩) (lay_at (w := w7) (os := [.cells #[.slice b71 m71 c71, .slice b72 m72 c72, .slice b73 0 c73] 32, .cells #[.int .i64 0, .int .i64 1] 3, .cells #[.slice (some ⟨w7.heap.size + 1, 0, none⟩) 2 2, .int .i64 1] 72, .cells #[.int .i64 1] 3, .cells #[.int .i64 3, .int .i64 3] 3]) hb 2 rfl) (by decide) HL0.out); have HE8 := Lib.hid (litInts (W := w8) (g := w7.heap.size + 3) (xs := [1]) (lay_at (w := w7) (os := [.cells #[.slice b71 m71 c71, .slice b72 m72 c72, .slice b73 0 c73] 32, .cells #[.int .i64 0, .int .i64 1] 3, .cells #[.slice (some ⟨w7.heap.size + 1, 0, none⟩) 2 2, .int .i64 1] 72, .cells #[.int .i64 1] 3, .cells #[.int .i64 3, .int .i64 3] 3]) hb 3 rfl) (by decide) (by decide)); obtain ⟨ra8, rm8, rk8, rfl⟩ := Own.slice ho; have HR8 := Lib.hid (show RRts Any w8 (.slice ra8 rm8 rk8) _ from RSl.mono (fun _ _ _ h => dRt.mono (fun _ _ => trivial) h) (fun _ _ => trivial) (OwnX.rsl famRt (by omega) ho (by decide))); clear ho; clear hb; have st8 := Lib.hid True.intro; clear this)
    | (have := st6; go_at_call 18; clear st6; refine (HP7.out ((w6.alloc (.cells #[.slice b61 m61 c61, .slice b62 m62 c62, .slice b63 m63 c63] 32)).alloc (.cells #[.int .i64 0] 3)) (.slice (some ⟨w6.heap.size + 1, 0, none⟩) 1 1) (litInts (xs := [0]) (lays_get [.cells #[.slice b61 m61 c61, .slice b62 m62 c62, .slice b63 m63 c63] 32, .cells #[.int .i64 0] 3] w6 1 rfl) (by decide) (by decide))).mono ?_; rintro e w7 ⟨b71, m71, c71, b72, m72, c72, b73, m73, c73, rfl, kv, hb⟩; have C7 := Lib.hid (bel_st (B := w6.heap.size) (w := w6) (by go_grown) hb (by go_size)); replace q0 := bt q0 C7.out; replace hsz := q0.size; have kt := kv; obtain ⟨y1, y2, y3, ye, yi, -, yt⟩ := kt; simp only [Value.agg.injEq, Array.mk.injEq, List.cons.injEq, and_true] at ye; obtain ⟨rfl, rfl, rfl⟩ := ye; obtain rfl : m73 = 0 := RSl.len yt; have HE7 := Lib.hid (yi.mono (fun _ _ => trivial) : RInts Any w7 (.slice b71 m71 c71) [0]); clear yt yi; have HV7 := Lib.hid (kv.mono (fun _ _ => trivial) : VOutc Any w7 (.agg #[.slice b71 m71 c71, .slice b72 m72 c72, .slice b73 0 c73]) _); clear kv; clear hb; have st7 := Lib.hid True.intro; clear this)
    | (have := st5; go_at_call 14; clear st5; refine (HP6.out ((w5.alloc (.cells #[.slice b51 m51 c51, .slice b52 m52 c52, .slice b53 m53 c53] 32)).alloc (.cells #[.int .i64 1, .int .i64 1] 3)) (by go_grown) (.slice (some ⟨w5.heap.size + 1, 0, none⟩) 2 2) (litInts (xs := [1, 1]) (lays_get [.cells #[.slice b51 m51 c51, .slice b52 m52 c52, .slice b53 m53 c53] 32, .cells #[.int .i64 1, .int .i64 1] 3] w5 1 rfl) (by decide) (by decide))).mono ?_; rintro e w6 ⟨b61, m61, c61, b62, m62, c62, b63, m63, c63, rfl, kv, hb⟩; have C6 := Lib.hid (bel_st (B := w5.heap.size) (w := w5) (by go_grown) hb (by go_size)); replace q0 := bt q0 C6.out; replace hsz := q0.size; obtain ⟨pa6, pb6, pc6, pl6⟩ := box3 G4.out q0; obtain ⟨qa6, qb6, qc6, ql6⟩ := box3 G8.out q0; clear kv; clear hb; have st6 := Lib.hid True.intro; clear this)
    | (have := st4; go_at_call 14; clear st4; refine (HP5.out _ (by go_grown)).mono ?_; rintro e w5 ⟨b51, m51, c51, b52, m52, c52, b53, m53, c53, rfl, kv, hb⟩; have C5 := Lib.hid (bel_st (B := w4.heap.size) (w := w4) (by go_grown) hb (by go_size)); replace q0 := bt q0 C5.out; replace hsz := q0.size; obtain ⟨pa5, pb5, pc5, pl5⟩ := box3 G4.out q0; obtain ⟨qa5, qb5, qc5, ql5⟩ := box3 G8.out q0; clear kv; clear hb; have st5 := Lib.hid True.intro; clear this)
    | (have := st3; go_at_call 14; clear st3; refine (HP4.out _ (by go_grown)).mono ?_; rintro e w4 ⟨b41, m41, c41, b42, m42, c42, b43, m43, c43, rfl, kv, hb⟩; have C4 := Lib.hid (bel_st (B := w3.heap.size) (w := w3) (by go_grown) hb (by go_size)); replace q0 := bt q0 C4.out; replace hsz := q0.size; have GB3 := Lib.hid (show w4.heap[w3.heap.size]? = some (.cells #[.slice b31 m31 c31, .slice b32 m32 c32, .slice b33 m33 c33] 32 (0, 0)) from lay_at (w := w3) (os := [.cells #[.slice b31 m31 c31, .slice b32 m32 c32, .slice b33 m33 c33] 32]) hb 0 rfl); obtain ⟨pa4, pb4, pc4, pl4⟩ := box3 G4.out q0; obtain ⟨qa4, qb4, qc4, ql4⟩ := box3 G8.out q0; clear kv; clear hb; have st4 := Lib.hid True.intro; clear this)
    | (have := st2; go_at_call 20; clear st2; refine (HP3.out ((w2.alloc (.cells #[.slice b21 m21 c21, .slice b22 m22 c22, .slice b23 m23 c23] 32)).alloc (.cells #[.int .i64 0, .int .i64 1, .int .i64 2] 3)) (by go_grown) (.slice (some ⟨w2.heap.size + 1, 0, none⟩) 3 3) (litInts (xs := [0, 1, 2]) (lays_get [.cells #[.slice b21 m21 c21, .slice b22 m22 c22, .slice b23 m23 c23] 32, .cells #[.int .i64 0, .int .i64 1, .int .i64 2] 3] w2 1 rfl) (by decide) (by decide))).mono ?_; rintro e w3 ⟨b31, m31, c31, b32, m32, c32, b33, m33, c33, rfl, kv, hb⟩; have C3 := Lib.hid (bel_st (B := w2.heap.size) (w := w2) (by go_grown) hb (by go_size)); replace q0 := bt q0 C3.out; replace hsz := q0.size; have GB2 := Lib.hid (show w3.heap[w2.heap.size]? = some (.cells #[.slice b21 m21 c21, .slice b22 m22 c22, .slice b23 m23 c23] 32 (0, 0)) from lay_at (w := w2) (os := [.cells #[.slice b21 m21 c21, .slice b22 m22 c22, .slice b23 m23 c23] 32, .cells #[.int .i64 0, .int .i64 1, .int .i64 2] 3]) hb 0 rfl); have HV3 := Lib.hid (kv.mono (fun _ _ => trivial) : VOutc Any w3 (.agg #[.slice b31 m31 c31, .slice b32 m32 c32, .slice b33 m33 c33]) _); clear kv; obtain ⟨pa3, pb3, pc3, pl3⟩ := box3 G4.out q0; obtain ⟨qa3, qb3, qc3, ql3⟩ := box3 G8.out q0; clear hb; have st3 := Lib.hid True.intro; clear this)
    | (have := st1; go_at_call 16; clear st1; refine (HP2.out _ (by go_grown)).mono ?_; rintro e w2 ⟨b21, m21, c21, b22, m22, c22, b23, m23, c23, rfl, kv, hb⟩; have C2 := Lib.hid (bel_st (B := w1.heap.size) (w := w1) (by go_grown) hb (by go_size)); replace q0 := bt q0 C2.out; replace hsz := q0.size; have GB1 := Lib.hid (show w2.heap[w1.heap.size]? = some (.cells #[.slice b11 m11 c11, .slice b12 m12 c12, .slice b13 m13 c13] 32 (0, 0)) from lay_at (w := w1) (os := [.cells #[.slice b11 m11 c11, .slice b12 m12 c12, .slice b13 m13 c13] 32]) hb 0 rfl); have HV2 := Lib.hid (kv.mono (fun _ _ => trivial) : VOutc Any w2 (.agg #[.slice b21 m21 c21, .slice b22 m22 c22, .slice b23 m23 c23]) _); clear kv; obtain ⟨pa2, pb2, pc2, pl2⟩ := box3 G4.out q0; obtain ⟨qa2, qb2, qc2, ql2⟩ := box3 G8.out q0; clear hb; have st2 := Lib.hid True.intro; clear this)
    | (have := st0; go_at_call 14; clear st0; refine (HP1.out).mono ?_; rintro e w1 ⟨b11, m11, c11, b12, m12, c12, b13, m13, c13, rfl, kv, hb⟩; rw [← HW0.out] at hb; have q0 := hb; have hsz := q0.size; have HV1 := Lib.hid (kv.mono (fun _ _ => trivial) : VOutc Any w1 (.agg #[.slice b11 m11 c11, .slice b12 m12 c12, .slice b13 m13 c13]) _); clear kv; obtain ⟨pa1, pb1, pc1, pl1⟩ := box3 G4.out q0; obtain ⟨qa1, qb1, qc1, ql1⟩ := box3 G8.out q0; clear hb; have st1 := Lib.hid True.intro; clear this))
  go_ret
  exact ⟨rfl, bt HbW.out q0⟩
end Go.Proofs.YtogngcbflhdadaaGreat

/- The contracts of the references' Great and of the comparison of profiles. -/
namespace Go.Proofs.YtogngcbflhdadaaGreat
open Go Go.RowKit Go.Shelf

/-- A profile is too great, or it has everyday bounds. -/
def GivesGr (p : Prof) (m : Nat) (w : World) (e : Ending) (w' : World) : Prop := ∃ G, e = .returned (.bool G) ∧ (G = false → p.rows.length ≤ 140 ∧ (∀ r ∈ p.rows, r.marks.length ≤ 60) ∧ m ≤ 60) ∧ Below w.heap.size w w'
theorem GivesGr.yes {p : Prof} {m : Nat} {w w' : World} (hb : Below w.heap.size w w') : GivesGr p m w (.returned (.bool true)) w' := ⟨_, rfl, (fun h => by cases h), hb⟩
theorem GivesGr.no {p : Prof} {m : Nat} {w w' : World} (h : p.rows.length ≤ 140 ∧ (∀ r ∈ p.rows, r.marks.length ≤ 60) ∧ m ≤ 60) (hb : Below w.heap.size w w') : GivesGr p m w (.returned (.bool false)) w' := ⟨_, rfl, (fun _ => h), hb⟩
end Go.Proofs.YtogngcbflhdadaaGreat

/- The contract of the reference's Twin of a profile. -/
namespace Go.Proofs.YtogngcbflhdadaaGreat
open Go Go.RowKit Go.Shelf

/-- A profile as a result, in memory of its own. -/
def GivesP (p : Prof) (w : World) (e : Ending) (w' : World) : Prop := ∃ v, e = .returned v ∧ VProf (From w.heap.size) w' v p ∧ Below w.heap.size w w'
end Go.Proofs.YtogngcbflhdadaaGreat
