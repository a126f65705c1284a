/- Texts of one claim, put together: ArgP, Chain, SamO, SamP, SamQ, SamR, SamT. -/
import Derived.Test.YthcbkhfmdginiaaGreatFGFoot
import Derived.Test.YthcbkhfmdginiaaGreatProg
import Derived.Test.YthcbkhfmdginiaaGreatFGProf
import Derived.Test.YthcbkhfmdginiaaGreatFGOne
import Derived.Test.YthcbkhfmdginiaaGreatFGNat
import Derived.Test.YthcbkhfmdginiaaGreatFGNatR
import Derived.Test.YthcbkhfmdginiaaGreatFGRul
import Derived.Test.YthcbkhfmdginiaaGreatFGPut
import Derived.KernelRfl
import Derived.Lib.SmallJoins
import Derived.Handy

namespace Go.Proofs.YthcbkhfmdginiaaGreat
open Go Go.RowKit Go.Deep Go.ChangeShapes Go.WideShapes Go.ChangeAt

theorem Tryz.cellsInt : Tryz.prog.cellsOf 3 = 1 := by kernel_rfl
theorem Tryz.bytesInt : Tryz.prog.bytesOf 3 = 8 := by kernel_rfl
theorem Tryz.cellsInts : Tryz.prog.cellsOf 25 = 1 := by kernel_rfl
theorem Tryz.cellsRow : Tryz.prog.cellsOf 66 = 2 := by kernel_rfl
theorem Tryz.bytesRow : Tryz.prog.bytesOf 66 = 32 := by kernel_rfl
theorem Tryz.cellsProf : Tryz.prog.cellsOf 24 = 3 := by kernel_rfl
theorem Tryz.own : ownKnob Tryz.prog.godebug = none := by kernel_rfl
theorem Tryz.laidOut : laidOutB Tryz.prog = true := by kernel_rfl

section
variable {H : Type} {enc : TypeId × Value → H} {w : World} {base : Nat} {spare : Nat → Bool} {held : Bool}
theorem wf_u8 {x : Int} (h : (Lit.int .u8 x).wf = true) : 0 ≤ x ∧ x ≤ 255 := by
 simp [Lit.wf, IntKind.min, IntKind.max, IntKind.bits, IntKind.signed] at h
 omega
theorem ints_of {fuel : Nat} {cs : List Value} {x : DataW H × List MemPlace} (h : DataW.trod enc Tryz.prog w base spare held fuel 25 cs = some x) (hz : ∀ m ∈ x.1.weights Tryz.prog 25, m ≤ reachBytes) : ∃ v xs, cs = [v] ∧ RInts Any w v xs :=
 rsl_of_trod Tryz.underlying25 Tryz.cellsInt (by omega) (by rw [Tryz.bytesInt]; omega) h hz (fun _ _ _ hy _ => int_of_trod Tryz.underlying3 hy)
set_option maxRecDepth 100000 in
theorem row_of {fuel : Nat} {cs : List Value} {x : DataW H × List MemPlace} (h : DataW.trod enc Tryz.prog w base spare held fuel 66 cs = some x) (hz : ∀ m ∈ x.1.weights Tryz.prog 66, m ≤ reachBytes) : ∃ a, dRow Any w cs a := by
 obtain ⟨y0, y1, n, rfl, hl, h0, h1⟩ := trod_struct2 Tryz.underlying66 h
 rw [Tryz.cellsRow] at hl
 match cs, hl with
 | [c, d], _ =>
  simp only [Tryz.cellsInt, Tryz.cellsInts, List.drop_zero, List.take_succ_cons, List.take_zero, List.drop_succ_cons] at h0 h1
  obtain ⟨v, xs, e0, hr⟩ := ints_of h0 (fun m hm => hz m (by simp [DataW.weights, Tryz.underlying66, DataW.weightsEach, hm]))
  obtain ⟨many, e1, hk⟩ := int_of_trod Tryz.underlying3 h1
  simp only [List.cons.injEq, and_true] at e0 e1
  subst e0 e1
  exact ⟨⟨xs, many⟩, _, rfl, hk, hr⟩
set_option maxRecDepth 100000 in
theorem arg_prof {b0 : Nat} {v : Value} {d : DataW H} {ps : List MemPlace} (hv : Value.okWide Tryz.prog w .any b0 24 v) (h : DataW.Trod enc Tryz.prog w base spare held 24 v d ps)
  (hz : ∀ m ∈ d.weights Tryz.prog 24, m ≤ reachBytes) : ∃ x, VProf Any w v x := by
 obtain ⟨v0, v1, v2, y0, y1, y2, n, rfl, rfl, rfl, h0, h1, h2⟩ := Go.Joins.open_agg3 Tryz.underlying24 (by kernel_rfl) Tryz.cellsProf hv h
 obtain ⟨cands, e0, -⟩ := int_of_trod Tryz.underlying3 h0
 obtain ⟨kind, e1, hk⟩ := int_of_trod Tryz.underlying5 h1
 obtain ⟨u2, xs, e2, hr⟩ := rsl_of_trod (α := Row) (dec := dRow Any) Tryz.underlying22 Tryz.cellsRow (by omega) (by rw [Tryz.bytesRow]; omega) h2
  (fun m hm => hz m (by simp [DataW.weights, Tryz.underlying24, DataW.weightsEach, hm])) (fun _ _ _ hy hm => row_of hy hm)
 simp only [List.cons.injEq, and_true] at e0 e1 e2
 subst e0 e1 e2
 obtain ⟨a, c, rfl, -, -⟩ := RSl.shape hr
 exact ⟨⟨cands, kind, xs⟩, a, c, rfl, (wf_u8 hk).1, (wf_u8 hk).2, hr⟩
set_option maxRecDepth 100000 in
theorem arg_ints {b0 : Nat} {v : Value} {d : DataW H} {ps : List MemPlace} (hv : Value.okWide Tryz.prog w .any b0 25 v) (h : DataW.Trod enc Tryz.prog w base spare held 25 v d ps)
  (hz : ∀ m ∈ d.weights Tryz.prog 25, m ≤ reachBytes) : ∃ xs, RInts Any w v xs := by
 obtain ⟨a, n, c, rfl⟩ := okWide_slice Tryz.underlying25 hv
 obtain ⟨fuel, hf⟩ := h
 obtain ⟨u, xs, e, hr⟩ := ints_of hf hz
 simp [Value.cells] at e
 exact ⟨xs, e ▸ hr⟩
end
theorem weights_at {H : Type} {P : Program} {ts : List TypeId} {ds : List (DataW H)} (hz : (DataW.weightsEach P ts ds).all (· ≤ reachBytes) = true) (j : Nat) {t : TypeId} {d : DataW H} (ht : ts[j]? = some t) (hd : ds[j]? = some d) : ∀ m ∈ d.weights P t, m ≤ reachBytes :=
 fun m hm => by simpa using List.all_eq_true.1 hz m (DataW.weights_mem_each ht hd m hm)
end Go.Proofs.YthcbkhfmdginiaaGreat

namespace Go.Proofs.YthcbkhfmdginiaaGreat
open Go Go.RowKit

theorem RSl.laidN {α : Type} {n : Nat} {dec : World → List Value → α → Prop} {w : World} {g : Nat} {cells : List Value} {e : TypeId} {xs : List α} {S : Nat → Prop} (hS : S g) (hg : w.heap[g]? = some (.cells cells.toArray e (0, 0))) (h : Dec n dec w cells xs) (hl : xs.length ≤ 1000000000) :
  RSl S n dec w (.slice (some ⟨g, 0, none⟩) xs.length xs.length) xs := by
 refine ⟨_, xs.length, cells, rfl, Nat.le_refl _, by omega, h, .inr ⟨g, 0, rfl, hS, fun j u hu => ?_⟩⟩
 rw [Nat.zero_add]
 simp only [World.cell?, hg]
 simpa using hu
theorem bt {A B C : World} (h : Below A.heap.size A B) (k : Below B.heap.size B C) : Below A.heap.size A C := h.trans (k.mono h.size)
theorem bel_st {B : Nat} {w W w' : World} (h : Below B w W) (hb : Below W.heap.size W w') (hB : B ≤ W.heap.size) : Below B w w' := h.trans (hb.mono hB)
def lays (w : World) : List Obj → World
 | [] => w
 | o :: os => lays (w.alloc o) os
theorem lays_below : ∀ (os : List Obj) (w : World), Below w.heap.size w (lays w os)
 | [], w => Below.refl _ w
 | o :: os, w => (below_new w o).trans ((lays_below os (w.alloc o)).mono (by simp))
theorem lays_get : ∀ (os : List Obj) (w : World) (j : Nat) {o : Obj}, os[j]? = some o → (lays w os).heap[w.heap.size + j]? = some o
 | o :: os, w, 0, _, h => by
  simp only [List.getElem?_cons_zero, Option.some.injEq] at h
  subst h
  exact ((lays_below os (w.alloc o)).block _ (by simp)).trans (box_new w o)
 | o :: os, w, j + 1, _, h => by
  have := lays_get os (w.alloc o) j (by simpa using h)
  rw [World.size_alloc, Nat.add_right_comm, Nat.add_assoc] at this
  exact this
theorem lay_at {w W : World} {os : List Obj} (hb : Below (lays w os).heap.size (lays w os) W) (j : Nat) {o : Obj} (h : os[j]? = some o) : W.heap[w.heap.size + j]? = some o :=
 (hb.block _ (size_of_box (lays_get os w j h))).trans (lays_get os w j h)
theorem box3 {W w1 : World} {g : Nat} {a b c : Value} {e : TypeId} (hg : W.heap[g]? = some (.cells #[a, b, c] e (0, 0))) (hb : Below W.heap.size W w1) : w1.cell? ⟨g, 0, none⟩ = some a ∧ w1.cell? ⟨g, 1, none⟩ = some b ∧ w1.cell? ⟨g, 2, none⟩ = some c ∧ g < w1.heap.size := by
 obtain ⟨h1, h2, -⟩ := own_box hb (size_of_box hg) hg
 exact ⟨h2 0, h2 1, h2 2, size_of_box h1⟩
theorem litInts {W : World} {g : Nat} {e : TypeId} {xs : List Int} (h : W.heap[g]? = some (.cells (xs.map (Value.int .i64)).toArray e (0, 0))) (hw : ∀ x ∈ xs, (Lit.int .i64 x).wf = true) (hl : xs.length ≤ 1000000) : RInts Any W (.slice (some ⟨g, 0, none⟩) xs.length xs.length) xs :=
 Arr.all (k := .i64) (show Arr .i64 W g e xs from h) (S := Any) trivial hw (by omega) rfl (Nat.le_refl _)
end Go.Proofs.YthcbkhfmdginiaaGreat

namespace Go.Proofs.YthcbkhfmdginiaaGreat
open Go Go.RowKit Go.Shelf

def eqRt (x y : Rt) : Bool := decide (x.neg = y.neg) && (eqL eqInt x.num y.num && eqL eqInt x.den y.den)
theorem eqRt_refl (x : Rt) : eqRt x x = true := by simp [eqRt, eqL_refl (p := eqInt) (fun x => by simp [eqInt])]
set_option maxHeartbeats 1000000 in
theorem r04Same (S T : Nat → Prop) (u v : Value) (x y : Rt) (w : World) (hx : VRt S w u x) (hy : VRt T w v y) :
  Calls Tryz.prog 51 #[u, v] w fun e w' => e = .returned (.bool (eqRt x y)) ∧ Below w.heap.size w w' := by
 obtain ⟨xn, xd, rfl, hx1, hx2⟩ := hx
 obtain ⟨yn, yd, rfl, hy1, hy2⟩ := hy
 obtain ⟨a1, c1, rfl, -, -⟩ := RSl.shape hx1
 obtain ⟨a2, c2, rfl, -, -⟩ := RSl.shape hx2
 obtain ⟨a3, c3, rfl, -, -⟩ := RSl.shape hy1
 obtain ⟨a4, c4, rfl, -, -⟩ := RSl.shape hy2
 obtain ⟨W2, hW2⟩ : ∃ W2, W2 = (w.alloc (.cells #[.bool x.neg, .slice a1 x.num.length c1, .slice a2 x.den.length c2] 56)).alloc (.cells #[.bool y.neg, .slice a3 y.num.length c3, .slice a4 y.den.length c4] 56) := ⟨_, rfl⟩
 have hb0 : Below w.heap.size w W2 := by rw [hW2]; exact ((Below.refl _ _).alloc (Nat.le_refl _) _).alloc (by simp) _
 have hz2 : W2.heap.size = w.heap.size + 2 := by rw [hW2]; simp
 have g1 : W2.heap[w.heap.size]? = some (.cells #[.bool x.neg, .slice a1 x.num.length c1, .slice a2 x.den.length c2] 56 (0, 0)) := by rw [hW2]; exact box_old _ (box_new w _)
 have g2 : W2.heap[w.heap.size + 1]? = some (.cells #[.bool y.neg, .slice a3 y.num.length c3, .slice a4 y.den.length c4] 56 (0, 0)) := by
  have := box_new (w.alloc (.cells #[.bool x.neg, .slice a1 x.num.length c1, .slice a2 x.den.length c2] 56)) (.cells #[.bool y.neg, .slice a3 y.num.length c3, .slice a4 y.den.length c4] 56)
  rw [hW2]; rwa [World.size_alloc] at this
 have hA := r3Same S T _ _ _ _ W2 (hx1.same (.of_below hb0)) (hy1.same (.of_below hb0))
 have hB := fun W (hW : Below w.heap.size w W) => r3Same S T _ _ _ _ W (hx2.same (.of_below hW)) (hy2.same (.of_below hW))
 obtain ⟨p1, h1⟩ : ∃ p, eqL eqInt x.num y.num = p := ⟨_, rfl⟩
 obtain ⟨p2, h2⟩ : ∃ p, eqL eqInt x.den y.den = p := ⟨_, rfl⟩
 obtain ⟨R, hR⟩ : ∃ R, eqRt x y = R := ⟨_, rfl⟩
 have hR2 : R = (decide (x.neg = y.neg) && (p1 && p2)) := by rw [← hR, ← h1, ← h2]; rfl
 rw [h1] at hA
 rw [h2] at hB
 rw [hR]
 obtain ⟨n1, e1⟩ : ∃ n, x.neg = n := ⟨_, rfl⟩
 obtain ⟨n2, e2⟩ : ∃ n, y.neg = n := ⟨_, rfl⟩
 obtain ⟨m1, l1⟩ : ∃ n, x.num.length = n := ⟨_, rfl⟩
 obtain ⟨m2, l2⟩ : ∃ n, x.den.length = n := ⟨_, rfl⟩
 obtain ⟨m3, l3⟩ : ∃ n, y.num.length = n := ⟨_, rfl⟩
 obtain ⟨m4, l4⟩ : ∃ n, y.den.length = n := ⟨_, rfl⟩
 rw [e1, l1, l2] at g1 hW2 ⊢
 rw [e2, l3, l4] at g2 hW2 ⊢
 rw [l1, l3] at hA
 simp only [l2, l4] at hB
 rw [e1, e2] at hR2
 have hA2 := hA
 rw [hW2] at hA2
 have HA := Lib.hid hA2; have HB := Lib.hid hB; have G1 := Lib.hid g1; have G2 := Lib.hid g2; have HW2 := Lib.hid hW2; have Hb0 := Lib.hid hb0; have Hz2 := Lib.hid hz2
 clear hA hA2 hB g1 g2 hW2 hb0 hz2 hR h1 h2 e1 e2 l1 l2 l3 l4 hx1 hx2 hy1 hy2
 cases n1 <;> cases n2 <;> cases p1 <;> cases p2 <;> (
  simp at hR2
  subst hR2
  go_enter Tryz.func51, Tryz.ntmps51
  go_wp2_with (first
   | (go_at_call_of 118 (Value.slice a1 m1 c1); refine HA.out.mono ?_; rintro e w1 ⟨rfl, hb1⟩; rw [← HW2.out] at hb1; have hq1 := Hb0.out.trans (hb1.mono (by rw [Hz2.out]; omega)); obtain ⟨-, gc, -⟩ := own_box hb1 (by rw [Hz2.out]; omega) G1.out; obtain ⟨-, gd, -⟩ := own_box hb1 (by rw [Hz2.out]; omega) G2.out; have gc2 := gc 2; have gd2 := gd 2; have hlt1 := hb1.size; rw [Hz2.out] at hlt1; have hlt2 : w.heap.size < w1.heap.size := (by omega); have hlt3 : w.heap.size + 1 < w1.heap.size := (by omega); clear gc gd hb1)
   | (go_at_call_of 118 (Value.slice a2 m2 c2); refine (HB.out _ hq1).mono ?_; rintro e w2 ⟨rfl, hb2⟩; replace hq1 := hq1.trans (hb2.mono hq1.size)))
  go_ret
  first | exact ⟨rfl, hq1⟩ | exact ⟨rfl, by have := Hb0.out; rw [HW2.out] at this; exact this⟩)
def GivesTrue (w : World) (e : Ending) (w' : World) : Prop := e = .returned (.bool true) ∧ Below w.heap.size w w'
set_option maxHeartbeats 1000000 in
theorem r04All_eq (S T : Nat → Prop) (u v : Value) (xs : List Rt) (w : World) (hx : RRts S w u xs) (hy : RRts T w v xs) : Calls Tryz.prog 145 #[u, v] w (GivesTrue w) := by
 obtain ⟨a1, cap1, rfl, hx1, hx2⟩ := RSl.shape hx
 obtain ⟨a2, cap2, rfl, hy1, hy2⟩ := RSl.shape hy
 obtain ⟨n, hn⟩ : ∃ n, xs.length = n := ⟨_, rfl⟩
 have hne : ((n : Int) != (n : Int)) = false := by simp
 rw [hn] at hx hy hx2 ⊢
 have HX := Lib.hid hx; have HY := Lib.hid hy; have Hn := Lib.hid hn
 clear hx hy hx1 hy1 hy2 hn
 go_enter Tryz.func145, Tryz.ntmps145
 go_wp2
 go_loopw [5] (fun i wr => ∃ k : Nat, k ≤ n ∧ i = .int .i64 k ∧ Below w.heap.size w wr) (fun i _ => n - (intOf i).toNat)
 case atStart => exact ⟨0, Nat.zero_le _, rfl, Below.refl _ _⟩
 case round =>
  obtain ⟨k, hk, rfl, hb⟩ := hrel
  have hz := hb.size
  by_cases hlt : k < n
  ·have hlk : k < xs.length := by rw [Hn.out]; exact hlt
   obtain ⟨b, off, c, d, e, rfl, -, -, hc, hd, he, hx⟩ := RSl.at3 HX.out k hlk
   obtain ⟨b2, off2, c', d', e', rfl, -, -, hc', hd', he', hy⟩ := RSl.at3 HY.out k hlk
   have hF := fun W (hW : Below w.heap.size w W) => r04Same S T (.agg #[c, d, e]) (.agg #[c', d', e']) _ _ W (by obtain ⟨vn, vd, h1, h2, h3⟩ := dRt.stable _ _ W _ _ (.of_below hW) hx; simp only [List.cons.injEq, and_true] at h1; obtain ⟨rfl, rfl, rfl⟩ := h1; exact ⟨_, _, rfl, h2, h3⟩) (by obtain ⟨vn, vd, h1, h2, h3⟩ := dRt.stable _ _ W _ _ (.of_below hW) hy; simp only [List.cons.injEq, and_true] at h1; obtain ⟨rfl, rfl, rfl⟩ := h1; exact ⟨_, _, rfl, h2, h3⟩)
   simp only [eqRt_refl] at hF
   obtain ⟨k1, q1, k2, q2, rfl, rfl, rfl, -, -⟩ := hx.open
   obtain ⟨k3, q3, k4, q4, rfl, rfl, rfl, -, -⟩ := hy.open
   have hS := Same.of_below (S := Any) hb
   have e1 := fun p => cell_ext (w := wr) (hS.cell trivial hc) p
   have e2 := fun p => cell_ext (w := wr) (hS.cell trivial hd) p
   have e3 := fun p => cell_ext (w := wr) (hS.cell trivial he) p
   have e4 := fun p => cell_ext (w := wr) (hS.cell trivial hc') p
   have e5 := fun p => cell_ext (w := wr) (hS.cell trivial hd') p
   have e6 := fun p => cell_ext (w := wr) (hS.cell trivial he') p
   have hF1 := fun p => hF (ext wr p) (hb.trans ((below_ext wr p).mono hz))
   have HF := Lib.hid hF1
   clear hF hF1 hc hd he hc' hd' he' hx hy hS
   go_wp2
   refine wp_region_ext (by kernel_rfl) (by kernel_rfl) ?_
   repeat (go_big_quiet_step ((go_at_call 51; have hh := HF.out; exact calls_ext (v := .bool true) (hh _))))
   refine wpQuiet_nil ?_
   intro w2 hw'
   have hb12 : Below wr.heap.size wr w2 := by obtain ⟨p, rfl⟩ := hw'; exact below_ext wr p
   clear hw' e1 e2 e3 e4 e5 e6 HF
   have hb2 := hb.trans (hb12.mono hz)
   go_wp2
   exact ⟨⟨k + 1, by omega, by go_num, hb2⟩, by simp [intOf]; omega⟩
  ·go_wp2
   go_ret
   exact ⟨rfl, hb⟩
end Go.Proofs.YthcbkhfmdginiaaGreat

namespace Go.Proofs.YthcbkhfmdginiaaGreat
open Go Go.RowKit Go.Shelf

theorem ints_eq (S T : Nat → Prop) (u v : Value) (xs : List Int) (w : World) (hx : RInts S w u xs) (hy : RInts T w v xs) : Calls Tryz.prog 24 #[u, v] w (GivesTrue w) :=
 (ints08 S T u v xs xs w hx hy).mono fun e w' ⟨h1, h2⟩ => ⟨by rw [h1, eqL_refl (p := eqInt) (fun x => by simp [eqInt])], h2⟩
theorem r04Same_eq (S T : Nat → Prop) (u v : Value) (x : Rt) (w : World) (hx : VRt S w u x) (hy : VRt T w v x) : Calls Tryz.prog 51 #[u, v] w (GivesTrue w) :=
 (r04Same S T u v x x w hx hy).mono fun e w' ⟨h1, h2⟩ => ⟨by rw [h1, eqRt_refl], h2⟩
theorem dRnd.open {S : Nat → Prop} {w : World} {c0 c1 c2 c3 c4 c5 : Value} {x : Rnd} (h : dRnd S w [c0, c1, c2, c3, c4, c5] x) :
  ∃ a0 m0 k0 a2 m2 k2 a3 m3 k3 a4 m4 k4 a5 m5 k5, c0 = .slice a0 m0 k0 ∧ c1 = .bool x.lost.neg ∧ c2 = .slice a2 m2 k2 ∧ c3 = .slice a3 m3 k3 ∧ c4 = .slice a4 m4 k4 ∧ c5 = .slice a5 m5 k5 ∧
   RRts S w (.slice a0 m0 k0) x.had ∧ VRt S w (.agg #[.bool x.lost.neg, .slice a2 m2 k2, .slice a3 m3 k3]) x.lost ∧ RInts S w (.slice a4 m4 k4) x.elected ∧ RInts S w (.slice a5 m5 k5) x.out := by
 obtain ⟨v0, vn, vd, v1, v2, h1, h2, h3, h4, h5, h6⟩ := h
 simp only [List.cons.injEq, and_true] at h1
 obtain ⟨rfl, rfl, rfl, rfl, rfl, rfl⟩ := h1
 obtain ⟨a0, k0, rfl, -, -⟩ := RSl.shape h2
 obtain ⟨a2, k2, rfl, -, -⟩ := RSl.shape h3
 obtain ⟨a3, k3, rfl, -, -⟩ := RSl.shape h4
 obtain ⟨a4, k4, rfl, -, -⟩ := RSl.shape h5
 obtain ⟨a5, k5, rfl, -, -⟩ := RSl.shape h6
 exact ⟨_, _, _, _, _, _, _, _, _, _, _, _, _, _, _, rfl, rfl, rfl, rfl, rfl, rfl, h2, ⟨_, _, rfl, h3, h4⟩, h5, h6⟩
set_option maxHeartbeats 2000000 in
set_option maxRecDepth 100000 in
theorem r11Rounds_eq (S T : Nat → Prop) (u v : Value) (xs : List Rnd) (w : World) (hx : RRnds S w u xs) (hy : RRnds T w v xs) : Calls Tryz.prog 76 #[u, v] w (GivesTrue w) := by
 obtain ⟨a1, cap1, rfl, hx1, hx2⟩ := RSl.shape hx
 obtain ⟨a2, cap2, rfl, hy1, hy2⟩ := RSl.shape hy
 obtain ⟨n, hn⟩ : ∃ n, xs.length = n := ⟨_, rfl⟩
 have hne : ((n : Int) != (n : Int)) = false := by simp
 rw [hn] at hx hy hx2 ⊢
 have HX := Lib.hid hx; have HY := Lib.hid hy; have Hn := Lib.hid hn
 clear hx hy hx1 hy1 hy2 hn
 go_enter Tryz.func76, Tryz.ntmps76
 go_wp2
 go_loopw [5] (fun i wr => ∃ k : Nat, k ≤ n ∧ i = .int .i64 k ∧ Below w.heap.size w wr) (fun i _ => n - (intOf i).toNat)
 case atStart => exact ⟨0, Nat.zero_le _, rfl, Below.refl _ _⟩
 case round =>
  obtain ⟨k, hk, rfl, hb⟩ := hrel
  have hz := hb.size
  by_cases hlt : k < n
  ·have hlk : k < xs.length := by rw [Hn.out]; exact hlt
   obtain ⟨b, off, c0, c1, c2, c3, c4, c5, rfl, -, -, x0, x1, x2, x3, x4, x5, hx⟩ := RSl.at6 HX.out k hlk
   obtain ⟨b', off', d0, d1, d2, d3, d4, d5, rfl, -, -, y0, y1, y2, y3, y4, y5, hy⟩ := RSl.at6 HY.out k hlk
   obtain ⟨p0, m0, q0, p2, m2, q2, p3, m3, q3, p4, m4, q4, p5, m5, q5, rfl, rfl, rfl, rfl, rfl, rfl, hx0, hx2, hx4, hx5⟩ := hx.open
   obtain ⟨s0, n0, t0, s2, n2, t2, s3, n3, t3, s4, n4, t4, s5, n5, t5, rfl, rfl, rfl, rfl, rfl, rfl, hy0, hy2, hy4, hy5⟩ := hy.open
   have hF0 := fun p => r04All_eq S T _ _ _ (ext wr p) (hx0.same (.of_below (hb.trans ((below_ext wr p).mono hz)))) (hy0.same (.of_below (hb.trans ((below_ext wr p).mono hz))))
   have hF2 := fun p => r04Same_eq S T _ _ _ (ext wr p) (hx2.same (.of_below (hb.trans ((below_ext wr p).mono hz)))) (hy2.same (.of_below (hb.trans ((below_ext wr p).mono hz))))
   have hF4 := fun p => ints_eq S T _ _ _ (ext wr p) (hx4.same (.of_below (hb.trans ((below_ext wr p).mono hz)))) (hy4.same (.of_below (hb.trans ((below_ext wr p).mono hz))))
   have hF5 := fun p => ints_eq S T _ _ _ (ext wr p) (hx5.same (.of_below (hb.trans ((below_ext wr p).mono hz)))) (hy5.same (.of_below (hb.trans ((below_ext wr p).mono hz))))
   obtain ⟨ng, hng⟩ : ∃ g, xs[k].lost.neg = g := ⟨_, rfl⟩
   rw [hng] at x1 y1 hF2
   have hS := Same.of_below (S := Any) hb
   have e0 := fun p => cell_ext (w := wr) (hS.cell trivial x0) p
   have e1 := fun p => cell_ext (w := wr) (hS.cell trivial x1) p
   have e2 := fun p => cell_ext (w := wr) (hS.cell trivial x2) p
   have e3 := fun p => cell_ext (w := wr) (hS.cell trivial x3) p
   have e4 := fun p => cell_ext (w := wr) (hS.cell trivial x4) p
   have e5 := fun p => cell_ext (w := wr) (hS.cell trivial x5) p
   have f0 := fun p => cell_ext (w := wr) (hS.cell trivial y0) p
   have f1 := fun p => cell_ext (w := wr) (hS.cell trivial y1) p
   have f2 := fun p => cell_ext (w := wr) (hS.cell trivial y2) p
   have f3 := fun p => cell_ext (w := wr) (hS.cell trivial y3) p
   have f4 := fun p => cell_ext (w := wr) (hS.cell trivial y4) p
   have f5 := fun p => cell_ext (w := wr) (hS.cell trivial y5) p
   have HF0 := Lib.hid hF0; have HF2 := Lib.hid hF2; have HF4 := Lib.hid hF4; have HF5 := Lib.hid hF5
   clear hF0 hF2 hF4 hF5 x0 x1 x2 x3 x4 x5 y0 y1 y2 y3 y4 y5 hx hy hx0 hx2 hx4 hx5 hy0 hy2 hy4 hy5 hng hS
   go_wp2
   refine wp_region_ext (by kernel_rfl) (by kernel_rfl) ?_
   repeat (go_big_quiet_step ((first
    | (go_at_call 145; have hh := HF0.out; exact calls_ext (v := .bool true) (hh _))
    | (go_at_call 51; have hh := HF2.out; exact calls_ext (v := .bool true) (hh _))
    | (go_at_call_of 24 (Value.slice p4 m4 q4); have hh := HF4.out; exact calls_ext (v := .bool true) (hh _))
    | (go_at_call_of 24 (Value.slice p5 m5 q5); have hh := HF5.out; exact calls_ext (v := .bool true) (hh _)))))
   refine wpQuiet_nil ?_
   intro w2 hw'
   have hb12 : Below wr.heap.size wr w2 := by obtain ⟨p, rfl⟩ := hw'; exact below_ext wr p
   clear hw' e0 e1 e2 e3 e4 e5 f0 f1 f2 f3 f4 f5 HF0 HF2 HF4 HF5
   have hb2 := hb.trans (hb12.mono hz)
   go_wp2
   exact ⟨⟨k + 1, by omega, by go_num, hb2⟩, by simp [intOf]; omega⟩
  ·go_wp2
   go_ret
   exact ⟨rfl, hb⟩
set_option maxHeartbeats 1000000 in
theorem r11Ties_eq (S T : Nat → Prop) (u v : Value) (xs : List Tie) (w : World) (hx : RTies S w u xs) (hy : RTies T w v xs) : Calls Tryz.prog 58 #[u, v] w (GivesTrue w) := by
 obtain ⟨a1, cap1, rfl, hx1, hx2⟩ := RSl.shape hx
 obtain ⟨a2, cap2, rfl, hy1, hy2⟩ := RSl.shape hy
 obtain ⟨n, hn⟩ : ∃ n, xs.length = n := ⟨_, rfl⟩
 have hne : ((n : Int) != (n : Int)) = false := by simp
 rw [hn] at hx hy hx2 ⊢
 have HX := Lib.hid hx; have HY := Lib.hid hy; have Hn := Lib.hid hn
 clear hx hy hx1 hy1 hy2 hn
 go_enter Tryz.func58, Tryz.ntmps58
 go_wp2
 go_loopw [5] (fun i wr => ∃ k : Nat, k ≤ n ∧ i = .int .i64 k ∧ Below w.heap.size w wr) (fun i _ => n - (intOf i).toNat)
 case atStart => exact ⟨0, Nat.zero_le _, rfl, Below.refl _ _⟩
 case round =>
  obtain ⟨k, hk, rfl, hb⟩ := hrel
  have hz := hb.size
  by_cases hlt : k < n
  ·have hlk : k < xs.length := by rw [Hn.out]; exact hlt
   obtain ⟨b, off, c, d, rfl, -, -, hc, hd, hx⟩ := RSl.at2 HX.out k hlk
   obtain ⟨b2, off2, c', d', rfl, -, -, hc', hd', hy⟩ := RSl.at2 HY.out k hlk
   obtain ⟨k1, q1, rfl, rfl, -, -, hI⟩ := hx.open
   obtain ⟨k2, q2, rfl, rfl, -, -, hJ⟩ := hy.open
   have hF := fun p => ints_eq S T _ _ _ (ext wr p) (hI.same (.of_below (hb.trans ((below_ext wr p).mono hz)))) (hJ.same (.of_below (hb.trans ((below_ext wr p).mono hz))))
   obtain ⟨ch, hch⟩ : ∃ c, xs[k].chosen = c := ⟨_, rfl⟩
   obtain ⟨ml, hml⟩ : ∃ m, xs[k].among.length = m := ⟨_, rfl⟩
   rw [hch] at hd hd'
   rw [hml] at hc hc' hF
   have hS := Same.of_below (S := Any) hb
   have e1 := fun p => cell_ext (w := wr) (hS.cell trivial hc) p
   have e2 := fun p => cell_ext (w := wr) (hS.cell trivial hd) p
   have e4 := fun p => cell_ext (w := wr) (hS.cell trivial hc') p
   have e5 := fun p => cell_ext (w := wr) (hS.cell trivial hd') p
   have hcc : (ch != ch) = false := by simp
   have HF := Lib.hid hF
   clear hF hc hd hc' hd' hx hy hI hJ hch hml hS
   go_wp2
   refine wp_region_ext (by kernel_rfl) (by kernel_rfl) ?_
   repeat (go_big_quiet_step ((go_at_call 24; have hh := HF.out; exact calls_ext (v := .bool true) (hh _))))
   refine wpQuiet_nil ?_
   intro w2 hw'
   have hb12 : Below wr.heap.size wr w2 := by obtain ⟨p, rfl⟩ := hw'; exact below_ext wr p
   clear hw' e1 e2 e4 e5 HF
   have hb2 := hb.trans (hb12.mono hz)
   go_wp2
   exact ⟨⟨k + 1, by omega, by go_num, hb2⟩, by simp [intOf]; omega⟩
  ·go_wp2
   go_ret
   exact ⟨rfl, hb⟩
set_option maxHeartbeats 1000000 in
theorem r11Same_eq (S T : Nat → Prop) (u v : Value) (o : Outc) (w : World) (hx : VOutc S w u o) (hy : VOutc T w v o) : Calls Tryz.prog 22 #[u, v] w (GivesTrue w) := by
 obtain ⟨u1, u2, u3, rfl, hx1, hx2, hx3⟩ := hx
 obtain ⟨v1, v2, v3, rfl, hy1, hy2, hy3⟩ := hy
 obtain ⟨a1, m1, c1, rfl⟩ := RSl.slice hx1
 obtain ⟨a2, m2, c2, rfl⟩ := RSl.slice hx2
 obtain ⟨a3, m3, c3, rfl⟩ := RSl.slice hx3
 obtain ⟨b1, n1, d1, rfl⟩ := RSl.slice hy1
 obtain ⟨b2, n2, d2, rfl⟩ := RSl.slice hy2
 obtain ⟨b3, n3, d3, rfl⟩ := RSl.slice hy3
 obtain ⟨W2, hW2⟩ : ∃ W2, W2 = (w.alloc (.cells #[.slice a1 m1 c1, .slice a2 m2 c2, .slice a3 m3 c3] 32)).alloc (.cells #[.slice b1 n1 d1, .slice b2 n2 d2, .slice b3 n3 d3] 32) := ⟨_, rfl⟩
 have hb0 : Below w.heap.size w W2 := by rw [hW2]; exact ((Below.refl _ _).alloc (Nat.le_refl _) _).alloc (by simp) _
 have hz2 : W2.heap.size = w.heap.size + 2 := by rw [hW2]; simp
 have g1 : W2.heap[w.heap.size]? = some (.cells #[.slice a1 m1 c1, .slice a2 m2 c2, .slice a3 m3 c3] 32 (0, 0)) := by rw [hW2]; exact box_old _ (box_new w _)
 have g2 : W2.heap[w.heap.size + 1]? = some (.cells #[.slice b1 n1 d1, .slice b2 n2 d2, .slice b3 n3 d3] 32 (0, 0)) := by
  have := box_new (w.alloc (.cells #[.slice a1 m1 c1, .slice a2 m2 c2, .slice a3 m3 c3] 32)) (.cells #[.slice b1 n1 d1, .slice b2 n2 d2, .slice b3 n3 d3] 32)
  rw [hW2]; rwa [World.size_alloc] at this
 have hA := ints_eq S T _ _ _ W2 (hx1.same (.of_below hb0)) (hy1.same (.of_below hb0))
 have hB := fun W (hW : Below w.heap.size w W) => r11Rounds_eq S T _ _ _ W (hx2.same (.of_below hW)) (hy2.same (.of_below hW))
 have hC := fun W (hW : Below w.heap.size w W) => r11Ties_eq S T _ _ _ W (hx3.same (.of_below hW)) (hy3.same (.of_below hW))
 rw [hW2] at hA
 have HA := Lib.hid hA; have HB := Lib.hid hB; have HC := Lib.hid hC; have G1 := Lib.hid g1; have G2 := Lib.hid g2; have HW2 := Lib.hid hW2; have Hb0 := Lib.hid hb0; have Hz2 := Lib.hid hz2
 clear hA hB hC g1 g2 hW2 hb0 hz2 hx1 hx2 hx3 hy1 hy2 hy3
 go_enter Tryz.func22, Tryz.ntmps22
 go_wp2_with (first
  | (go_at_call 24; refine HA.out.mono ?_; rintro e w1 ⟨rfl, hb1⟩; rw [← HW2.out] at hb1; have hq1 := Hb0.out.trans (hb1.mono (by rw [Hz2.out]; omega)); obtain ⟨r1, gc, -⟩ := own_box hb1 (by rw [Hz2.out]; omega) G1.out; obtain ⟨r2, gd, -⟩ := own_box hb1 (by rw [Hz2.out]; omega) G2.out; have gc1 := gc 1; have gd1 := gd 1; have hlt1 := hb1.size; rw [Hz2.out] at hlt1; have hlt2 : w.heap.size < w1.heap.size := (by omega); have hlt3 : w.heap.size + 1 < w1.heap.size := (by omega); have R1 := Lib.hid r1; have R2 := Lib.hid r2; clear gc gd hb1 r1 r2)
  | (go_at_call 76; refine (HB.out _ hq1).mono ?_; rintro e w2 ⟨rfl, hb2⟩; replace hq1 := hq1.trans (hb2.mono hq1.size); obtain ⟨-, gc, -⟩ := own_box hb2 hlt2 R1.out; obtain ⟨-, gd, -⟩ := own_box hb2 hlt3 R2.out; have gc2 := gc 2; have gd2 := gd 2; have hz2 := hb2.size; have hlt4 : w.heap.size < w2.heap.size := (by omega); have hlt5 : w.heap.size + 1 < w2.heap.size := (by omega); clear gc gd)
  | (go_at_call 58; refine (HC.out _ hq1).mono ?_; rintro e w3 ⟨rfl, hb3⟩; replace hq1 := hq1.trans (hb3.mono hq1.size)))
 go_ret
 exact ⟨rfl, hq1⟩
end Go.Proofs.YthcbkhfmdginiaaGreat

namespace Go.Proofs.YthcbkhfmdginiaaGreat
open Go Go.RowKit Go.Shelf

def GivesGr (p : Prof) (m : Nat) (w : World) (e : Ending) (w' : World) : Prop := ∃ G, e = .returned (.bool G) ∧ (G = false → p.rows.length ≤ 140 ∧ (∀ r ∈ p.rows, r.marks.length ≤ 60) ∧ m ≤ 60) ∧ Below w.heap.size w w'
theorem GivesGr.yes {p : Prof} {m : Nat} {w w' : World} (hb : Below w.heap.size w w') : GivesGr p m w (.returned (.bool true)) w' := ⟨_, rfl, (fun h => by cases h), hb⟩
theorem GivesGr.no {p : Prof} {m : Nat} {w w' : World} (h : p.rows.length ≤ 140 ∧ (∀ r ∈ p.rows, r.marks.length ≤ 60) ∧ m ≤ 60) (hb : Below w.heap.size w w') : GivesGr p m w (.returned (.bool false)) w' := ⟨_, rfl, (fun _ => h), hb⟩
set_option maxHeartbeats 1000000 in
theorem r09Great (S : Nat → Prop) (u : Value) (p : Prof) (w : World) (h : VProf S w u p) :
  Calls Tryz.prog 59 #[u] w (GivesGr p 0 w) := by
 obtain ⟨a, cap, rfl, -, -, hR⟩ := h
 obtain ⟨cands, kind, rows⟩ := p
 simp only at *
 obtain ⟨n, hn⟩ : ∃ n, rows.length = n := ⟨_, rfl⟩
 rw [hn] at hR ⊢
 have hb0 := below_new w (.cells #[.int .i64 cands, .int .u8 kind, .slice a n cap] 24)
 have hbx := box_new w (.cells #[.int .i64 cands, .int .u8 kind, .slice a n cap] 24)
 obtain ⟨-, pc, -⟩ := own_box (Below.refl _ _) (size_of_box hbx) hbx
 have pc2 := pc 2
 have hR2 := hR.same (.of_below hb0)
 obtain ⟨W, hW⟩ : ∃ W, W = w.alloc (.cells #[.int .i64 cands, .int .u8 kind, .slice a n cap] 24) := ⟨_, rfl⟩
 have hn4 : n ≤ 140737488355328 := by obtain ⟨_, _, e, _, q⟩ := RSl.shape hR; omega
 have HR := Lib.hid hR2; have Hn := Lib.hid hn
 clear hR hR2 pc hbx hn
 go_enter Tryz.func59, Tryz.ntmps59
 go_wp2
 rw [← hW] at pc2 hb0 HR ⊢
 clear hW
 go_loop [3] (fun i => ∃ k : Nat, k ≤ n ∧ k ≤ 141 ∧ i = .int .i64 k ∧ Hid (∀ j (h : j < rows.length), j < k → rows[j].marks.length ≤ 60)) (fun i => n - (intOf i).toNat)
 case atStart => exact ⟨0, Nat.zero_le _, Nat.zero_le _, rfl, Lib.hid (fun _ _ h => by omega)⟩
 case round =>
  obtain ⟨k, hk, hk2, rfl, hall⟩ := hrel
  have hend : ¬ (k < n ∧ k ≤ 140) → ¬ 140 < n → rows.length ≤ 140 ∧ ∀ r ∈ rows, r.marks.length ≤ 60 := fun h1 h2 => by
   refine ⟨by rw [Hn.out]; omega, fun r hr => ?_⟩
   obtain ⟨j, hj, rfl⟩ := List.getElem_of_mem hr
   exact hall.out j hj (by rw [Hn.out] at hj; omega)
  have Hend := Lib.hid hend
  clear hend
  by_cases hlt : k < n
  ·by_cases h140 : k ≤ 140
   ·have hlr : k < rows.length := by rw [Hn.out]; exact hlt
    obtain ⟨b, off, c, d, rfl, -, -, hc, -, hx⟩ := RSl.at2 HR.out k hlr
    obtain ⟨ax, capx, rfl, -, -, -, -⟩ := hx.open
    obtain ⟨m, hm⟩ : ∃ m, rows[k].marks.length = m := ⟨_, rfl⟩
    rw [hm] at hc
    have h140' : (k : Int) ≤ 140 := by omega
    by_cases h60 : 60 < m
    ·have h60' : (60 : Int) < m := by omega
     clear hx hm
     go_wp2
     go_ret
     exact GivesGr.yes hb0
    ·have h60' : ¬ (60 : Int) < m := by omega
     have hall2 : ∀ j (h : j < rows.length), j < k + 1 → rows[j].marks.length ≤ 60 := fun j h hj => by
      rcases Nat.lt_succ_iff_lt_or_eq.1 hj with h3 | rfl
      ·exact hall.out j h h3
      ·rw [hm]; omega
     have Hall2 := Lib.hid hall2
     clear hx hm hall2
     go_wp2
     go_round
     case rel => exact ⟨k + 1, by omega, by omega, by go_num, Hall2⟩
     case measure => simp [intOf]; omega
   ·have h140' : ¬ (k : Int) ≤ 140 := by omega
    have h4 : (140 : Int) < n := by omega
    go_wp2
    go_ret
    exact GivesGr.yes hb0
  ·obtain rfl : k = n := by omega
   by_cases h4 : 140 < k
   ·have h4' : (140 : Int) < k := by omega
    go_wp2
    go_ret
    exact GivesGr.yes hb0
   ·have h4' : ¬ (140 : Int) < k := by omega
    go_wp2
    go_ret
    exact GivesGr.no (by have := Hend.out (by omega) h4; exact ⟨this.1, this.2, by omega⟩) hb0
set_option maxHeartbeats 1000000 in
theorem r11Great (S T : Nat → Prop) (u v : Value) (p : Prof) (lot : List Int) (w : World) (h : VProf S w u p) (hv : RInts T w v lot) :
  Calls Tryz.prog 13 #[u, v] w (GivesGr p lot.length w) := by
 have h1 := h
 obtain ⟨a, cap, rfl, -, -, -⟩ := h
 obtain ⟨a2, cap2, rfl, -, -⟩ := RSl.shape hv
 obtain ⟨cands, hc⟩ : ∃ c, p.cands = c := ⟨_, rfl⟩
 obtain ⟨kk, hkk⟩ : ∃ c, p.kind = c := ⟨_, rfl⟩
 obtain ⟨n, hn⟩ : ∃ n, p.rows.length = n := ⟨_, rfl⟩
 obtain ⟨nl, hnl⟩ : ∃ n, lot.length = n := ⟨_, rfl⟩
 rw [hc, hkk, hn] at h1 ⊢
 rw [hnl]
 have hb0 := below_new w (.cells #[.int .i64 cands, .int .u8 kk, .slice a n cap] 24)
 have hG := r09Great S _ p _ (h1.same (.of_below hb0))
 have HG := Lib.hid hG
 clear hG h1 hc hkk hn hv hnl
 by_cases hl : 60 < nl
 ·have hl' : (60 : Int) < nl := by omega
  go_enter Tryz.func13, Tryz.ntmps13
  go_wp2_with (go_at_call 59; refine HG.out.mono ?_; rintro e w1 ⟨G, rfl, hG, hb1⟩; have hq := hb0.trans (hb1.mono (by simp)); cases G)
  all_goals
   go_ret
   exact GivesGr.yes hq
 ·have hl' : ¬ (60 : Int) < nl := by omega
  have hl2 : Hid (nl ≤ 60) := Lib.hid (by omega)
  go_enter Tryz.func13, Tryz.ntmps13
  go_wp2_with (go_at_call 59; refine HG.out.mono ?_; rintro e w1 ⟨G, rfl, hG, hb1⟩; have HL : Hid (G = false → p.rows.length ≤ 140 ∧ (∀ r ∈ p.rows, r.marks.length ≤ 60) ∧ nl ≤ 60) := Lib.hid (fun hh => ⟨(hG hh).1, (hG hh).2.1, hl2.out⟩); have hq := hb0.trans (hb1.mono (by simp)); clear hG; cases G)
  ·go_ret
   refine (show GivesGr p nl w (.returned (.bool (decide ((60 : Int) < (nl : Int))))) w1 from ?_)
   rw [decide_eq_false (show ¬ (60 : Int) < (nl : Int) by omega)]
   exact GivesGr.no (HL.out (by first | rfl | trivial)) hq
  ·go_ret
   exact GivesGr.yes hq
end Go.Proofs.YthcbkhfmdginiaaGreat

namespace Go.Proofs.YthcbkhfmdginiaaGreat
open Go Go.RowKit Go.Shelf

set_option maxHeartbeats 2000000 in
set_option maxRecDepth 100000 in
theorem r09Same_eq (S T : Nat → Prop) (u v : Value) (p : Prof) (w : World) (h : VProf S w u p) (hv : VProf T w v p) : Calls Tryz.prog 23 #[u, v] w (GivesTrue w) := by
 obtain ⟨a1, c1, rfl, -, -, hR1⟩ := h
 obtain ⟨a2, c2, rfl, -, -, hR2⟩ := hv
 obtain ⟨cands, kind, rows⟩ := p
 simp only at *
 obtain ⟨n, hn⟩ : ∃ n, rows.length = n := ⟨_, rfl⟩
 have hne : ((n : Int) != (n : Int)) = false := by simp
 have hne2 : (cands != cands) = false := by simp
 have hne3 : (kind != kind) = false := by simp
 rw [hn] at hR1 hR2 ⊢
 obtain ⟨W2, hW2⟩ : ∃ W2, W2 = (w.alloc (.cells #[.int .i64 cands, .int .u8 kind, .slice a1 n c1] 24)).alloc (.cells #[.int .i64 cands, .int .u8 kind, .slice a2 n c2] 24) := ⟨_, rfl⟩
 have hb0 : Below w.heap.size w W2 := by rw [hW2]; exact ((Below.refl _ _).alloc (Nat.le_refl _) _).alloc (by simp) _
 have hz2 : W2.heap.size = w.heap.size + 2 := by rw [hW2]; simp
 have g1 : W2.heap[w.heap.size]? = some (.cells #[.int .i64 cands, .int .u8 kind, .slice a1 n c1] 24 (0, 0)) := by rw [hW2]; exact box_old _ (box_new w _)
 have g2 : W2.heap[w.heap.size + 1]? = some (.cells #[.int .i64 cands, .int .u8 kind, .slice a2 n c2] 24 (0, 0)) := by
  have := box_new (w.alloc (.cells #[.int .i64 cands, .int .u8 kind, .slice a1 n c1] 24)) (.cells #[.int .i64 cands, .int .u8 kind, .slice a2 n c2] 24)
  rw [hW2]; rwa [World.size_alloc] at this
 have hn4 : n ≤ 140737488355328 := by obtain ⟨_, _, e, _, q⟩ := RSl.shape hR1; omega
 have HX := Lib.hid hR1; have HY := Lib.hid hR2; have Hn := Lib.hid hn; have G1 := Lib.hid g1; have G2 := Lib.hid g2; have HW2 := Lib.hid hW2; have Hb0 := Lib.hid hb0; have Hz2 := Lib.hid hz2
 clear hR1 hR2 hn g1 g2 hW2 hb0 hz2
 go_enter Tryz.func23, Tryz.ntmps23
 go_wp2
 rw [← HW2.out]
 go_loopw [5] (fun i wr => ∃ k : Nat, k ≤ n ∧ i = .int .i64 k ∧ Below W2.heap.size W2 wr) (fun i _ => n - (intOf i).toNat)
 case atStart => exact ⟨0, Nat.zero_le _, rfl, Below.refl _ _⟩
 case round =>
  obtain ⟨k, hk, rfl, hbW⟩ := hrel
  have hb : Below w.heap.size w wr := Hb0.out.trans (hbW.mono (by rw [Hz2.out]; omega))
  have hz := hb.size
  obtain ⟨r1, gc, -⟩ := own_box hbW (by rw [Hz2.out]; omega) G1.out
  obtain ⟨r2, gd, -⟩ := own_box hbW (by rw [Hz2.out]; omega) G2.out
  have gc2 := gc 2
  have gd2 := gd 2
  have hlt1 := size_of_box r1
  have hlt2 := size_of_box r2
  clear gc gd r1 r2
  by_cases hlt : k < n
  ·have hlk : k < rows.length := by rw [Hn.out]; exact hlt
   obtain ⟨b, off, c, d, rfl, -, -, hc, hd, hx⟩ := RSl.at2 HX.out k hlk
   obtain ⟨b2, off2, c', d', rfl, -, -, hc', hd', hy⟩ := RSl.at2 HY.out k hlk
   obtain ⟨k1, q1, rfl, rfl, -, -, hI⟩ := hx.open
   obtain ⟨k2, q2, rfl, rfl, -, -, hJ⟩ := hy.open
   have hF := fun p => ints_eq S T _ _ _ (ext wr p) (hI.same (.of_below (hb.trans ((below_ext wr p).mono hz)))) (hJ.same (.of_below (hb.trans ((below_ext wr p).mono hz))))
   obtain ⟨many, hch⟩ : ∃ c, rows[k].many = c := ⟨_, rfl⟩
   obtain ⟨ml, hml⟩ : ∃ m, rows[k].marks.length = m := ⟨_, rfl⟩
   rw [hch] at hd hd'
   rw [hml] at hc hc' hF
   have hS := Same.of_below (S := Any) hb
   have e1 := fun p => cell_ext (w := wr) (hS.cell trivial hc) p
   have e2 := fun p => cell_ext (w := wr) (hS.cell trivial hd) p
   have e4 := fun p => cell_ext (w := wr) (hS.cell trivial hc') p
   have e5 := fun p => cell_ext (w := wr) (hS.cell trivial hd') p
   have e6 := fun p => cell_ext (w := wr) gc2 p
   have e7 := fun p => cell_ext (w := wr) gd2 p
   have hcc : (many != many) = false := by simp
   have HF := Lib.hid hF
   clear hF hc hd hc' hd' hx hy hI hJ hch hml hS
   go_wp2
   clear gc2 gd2
   refine wp_region_ext (by kernel_rfl) (by kernel_rfl) ?_
   repeat (go_big_quiet_step ((go_at_call 24; have hh := HF.out; exact calls_ext (v := .bool true) (hh _))))
   refine wpQuiet_nil ?_
   intro w2 hw'
   have hb12 : Below wr.heap.size wr w2 := by obtain ⟨p, rfl⟩ := hw'; exact below_ext wr p
   clear hw' e1 e2 e4 e5 e6 e7 HF
   have hb2 := hbW.trans (hb12.mono hbW.size)
   go_wp2
   exact ⟨⟨k + 1, by omega, by go_num, hb2⟩, by simp [intOf]; omega⟩
  ·go_wp2
   go_ret
   exact ⟨rfl, hb⟩
end Go.Proofs.YthcbkhfmdginiaaGreat

namespace Go.Proofs.YthcbkhfmdginiaaGreat
open Go Go.RowKit Go.Shelf

def GivesP (p : Prof) (w : World) (e : Ending) (w' : World) : Prop := ∃ v, e = .returned v ∧ VProf (From w.heap.size) w' v p ∧ Below w.heap.size w w'
theorem row_new {base m : Nat} {w w2 : World} {ov u : Value} {xs : List Row} {r : Row} (h : Own m 3 1 (dInt .i64) w2 u r.marks) (hl : r.marks.length ≤ 1000000) (hw : (Lit.int .i64 r.many).wf = true) (ho : OwnX base 66 2 dRow w ov xs) (hb : base ≤ m) (hm : m = w.heap.size) :
  dRow (Rg base (w2.alloc (.cells #[u, .int .i64 r.many] 66)) ov) (w2.alloc (.cells #[u, .int .i64 r.many] 66)) [u, .int .i64 r.many] r := by
 have hr : RInts (Cut (From m) w2.heap.size) w2 u r.marks := RSl.cut (by omega) (fun _ _ h => h) (Own.rsl h (by omega))
 refine ⟨u, rfl, hw, (hr.same (.of_below (below_new _ _))).mono fun b hb' => ⟨Nat.le_trans hb hb'.1, by have := hb'.2; simp; omega, fun e => ?_⟩⟩
 have h1 := (Own.lt ho b e.symm).2
 have h2 : m ≤ b := hb'.1
 omega
set_option maxHeartbeats 2000000 in
set_option maxRecDepth 100000 in
theorem r09Twin (S : Nat → Prop) (u : Value) (p : Prof) (w : World) (h : VProf S w u p) (h140 : p.rows.length ≤ 140) (h60 : ∀ r ∈ p.rows, r.marks.length ≤ 60) : Calls Tryz.prog 15 #[u] w (GivesP p w) := by
 obtain ⟨a, cap, rfl, hk1, hk2, hR⟩ := h
 obtain ⟨cands, kind, rows⟩ := p
 simp only at *
 obtain ⟨n, hn⟩ : ∃ n, rows.length = n := ⟨_, rfl⟩
 rw [hn] at hR h140 ⊢
 obtain ⟨W2, hW2⟩ : ∃ W2, W2 = (w.alloc (.cells #[.int .i64 cands, .int .u8 kind, .slice a n cap] 24)).alloc (.cells #[.int .i64 0, .int .u8 0, .slice none 0 0] 24) := ⟨_, rfl⟩
 have hb0 : Below w.heap.size w W2 := by rw [hW2]; exact ((Below.refl _ _).alloc (Nat.le_refl _) _).alloc (by simp) _
 have hz2 : W2.heap.size = w.heap.size + 2 := by rw [hW2]; simp
 have g1 : W2.heap[w.heap.size]? = some (.cells #[.int .i64 cands, .int .u8 kind, .slice a n cap] 24 (0, 0)) := by rw [hW2]; exact box_old _ (box_new w _)
 have g2 : W2.heap[w.heap.size + 1]? = some (.cells #[.int .i64 0, .int .u8 0, .slice none 0 0] 24 (0, 0)) := by
  have := box_new (w.alloc (.cells #[.int .i64 cands, .int .u8 kind, .slice a n cap] 24)) (.cells #[.int .i64 0, .int .u8 0, .slice none 0 0] 24)
  rw [hW2]; rwa [World.size_alloc] at this
 have hRC : RRows (Cut S w.heap.size) w (.slice a n cap) rows := hR.cut
 have HR := Lib.hid hRC; have Hn := Lib.hid hn; have G1 := Lib.hid g1; have G2 := Lib.hid g2; have HW2 := Lib.hid hW2; have Hb0 := Lib.hid hb0; have Hz2 := Lib.hid hz2; have H60 := Lib.hid h60
 clear hR hRC hn g1 g2 hW2 hb0 hz2 h60
 go_enter Tryz.func15, Tryz.ntmps15
 go_wp2
 rw [← HW2.out]
 go_loopw [3, 4] (fun ov i wr => ∃ k : Nat, k ≤ n ∧ i = .int .i64 k ∧ Hid (OwnX W2.heap.size 66 2 dRow wr ov (rows.take k)) ∧ Below W2.heap.size W2 wr) (fun _ i _ => n - (intOf i).toNat)
 case atStart => exact ⟨0, Nat.zero_le _, rfl, Lib.hid (OwnX.nil _ _ _ _ _), Below.refl _ _⟩
 case round =>
  obtain ⟨k, hk, rfl, hO, hbW⟩ := hrel
  have hb : Below w.heap.size w wr := Hb0.out.trans (hbW.mono (by rw [Hz2.out]; omega))
  have hz := hb.size
  have hzW := hbW.size
  rw [Hz2.out] at hzW
  obtain ⟨r1, gc, gf⟩ := own_box hbW (by rw [Hz2.out]; omega) G1.out
  have gc2 := gc 2
  have hlt1 := size_of_box r1
  obtain ⟨aov, cov, rfl⟩ := hO.out.shape
  obtain ⟨m, hm⟩ : ∃ m, (rows.take k).length = m := ⟨_, rfl⟩
  rw [hm] at hO ⊢
  by_cases hlt : k < n
  ·have hlk : k < rows.length := by rw [Hn.out]; exact hlt
   have hmk : m = k := by rw [← hm, List.length_take]; omega
   subst hmk
   obtain ⟨b, off, c, d, rfl, hSb, hbw, hc, hd, hx⟩ := RSl.at2 HR.out m hlk
   obtain ⟨k1, q1, rfl, rfl, -, hwf, hI⟩ := hx.open
   have hml := H60.out _ (List.getElem_mem hlk)
   have htk : rows.take (m + 1) = rows.take m ++ [rows[m]] := List.take_succ_eq_append_getElem hlk
   obtain ⟨r, hr⟩ : ∃ r, rows[m] = r := ⟨_, rfl⟩
   rw [hr] at hc hd hwf hI hml htk
   obtain ⟨marks, hmk⟩ : ∃ l, r.marks = l := ⟨_, rfl⟩
   obtain ⟨many, hme⟩ : ∃ l, r.many = l := ⟨_, rfl⟩
   rw [hmk] at hc hI hml
   rw [hme] at hd hwf
   obtain ⟨ml, hmll⟩ : ∃ l, marks.length = l := ⟨_, rfl⟩
   rw [hmll] at hc hI hml
   have hc1 := (Same.of_below (S := Any) hb).cell trivial hc
   have hd1 := (Same.of_below (S := Any) hb).cell trivial hd
   obtain ⟨W4, hW4⟩ : ∃ W4, W4 = wr.drew.alloc (.cells #[] 3) := ⟨_, rfl⟩
   have hb4 : Below wr.heap.size wr W4 := by rw [hW4]; exact (Below.drew (Below.refl _ _)).alloc (Nat.le_refl _) _
   have hz4 : W4.heap.size = wr.heap.size + 1 := by rw [hW4]; simp
   have hown0 : Own wr.heap.size 3 1 (dInt .i64) W4 (.slice (some ⟨wr.heap.size, 0, none⟩) 0 0) ([] : List Int) := by rw [hW4]; exact Own.made _ _ _ _ wr.drew #[] 0 (Nat.le_refl _) (by simp [maxLen]) rfl
   have hu : RSl (Cut S w.heap.size) 1 (dInt .i64) W4 (.slice k1 ml q1) marks := (hI.same (.of_below hb)).same (.of_below hb4)
   have hin : ∀ (a' : Option Addr) (n' c' : Nat) (W5 : World), W4.grownBy W5 (some wr.heap.size) → (Same (Cut S w.heap.size) W4 W5 → Own wr.heap.size 3 1 (dInt .i64) W5 (.slice a' n' c') ([] ++ marks)) →
     W5.cell? ⟨w.heap.size, 2, none⟩ = some (.slice (some ⟨b, off, none⟩) n cap) ∧ W5.cell? ⟨b, off + m * 2 + 1, none⟩ = some (.int .i64 many) ∧ w.heap.size < W5.heap.size ∧ b < W5.heap.size ∧ wr.heap.size ≤ W5.heap.size ∧
     Hid (OwnX W2.heap.size 66 2 dRow (W5.alloc (.cells #[.slice a' n' c', .int .i64 many] 66)) (.slice aov m cov) (rows.take m)) ∧
     Hid (dRow (Rg W2.heap.size (W5.alloc (.cells #[.slice a' n' c', .int .i64 many] 66)) (.slice aov m cov)) (W5.alloc (.cells #[.slice a' n' c', .int .i64 many] 66)) [.slice a' n' c', .int .i64 many] r) ∧
     Below W2.heap.size W2 (W5.alloc (.cells #[.slice a' n' c', .int .i64 many] 66)) := fun a' n' c' W5 hg hoo => by
    have hz5 := hg.size
    have hlo : ∀ x, x < wr.heap.size → W5.heap[x]? = wr.heap[x]? := fun x hx => (hg.block x (by omega) (fun e => by cases e; omega)).trans (hb4.block x hx)
    have hbr5 : Below wr.heap.size wr W5 := ⟨hg.os.trans hb4.os, hg.tape.trans hb4.tape, hg.output.trans hb4.output, by omega, fun x hx => hlo x hx⟩
    have ho5 := hoo (fun x hx hs => (hlo x (by have := hs.2; omega)).trans ((hb4.block x (by have := hs.2; omega)).symm))
    rw [List.nil_append] at ho5
    have hO5 := hO.out.below famRow hbr5
    refine ⟨(World.cell?_of_block (a := ⟨w.heap.size, 2, none⟩) (hlo _ hlt1)).trans gc2, (World.cell?_of_block (a := ⟨b, off + m * 2 + 1, none⟩) (hlo _ (by show b < wr.heap.size; omega))).trans hd1, by omega, by omega, by omega, Lib.hid (hO5.below famRow (below_new _ _)), Lib.hid ?_, (hbW.trans (hbr5.mono (by rw [Hz2.out]; omega))).alloc (by rw [Hz2.out]; omega) _⟩
    have := row_new (base := W2.heap.size) (m := wr.heap.size) (w := wr) (w2 := W5) (r := r) (u := .slice a' n' c') (by rw [hmk]; exact ho5) (by rw [hmk, hmll]; omega) (by rw [hme]; exact hwf) hO.out (by rw [Hz2.out]; omega) rfl
    rwa [hme] at this
   have hlo2 : ∀ x, (Value.slice aov m cov).ownBlock = some x → W2.heap.size ≤ x := fun x hx => (Own.lt hO.out x hx).1
   rw [hW4] at hin hown0 hu
   have Hin := Lib.hid hin; have Hown0 := Lib.hid hown0; have Hu := Lib.hid hu; have Hml := Lib.hid hmll; have Htk := Lib.hid htk; have Hlo2 := Lib.hid hlo2; have HW4 := Lib.hid hW4; have Hz4 := Lib.hid hz4; have Hm := Lib.hid hm
   have hbw2 : b < wr.heap.size := by omega
   clear hin hown0 hu hc hd hx hI hwf hmk hme hmll htk hlo2 hW4 hz4 gc gf r1 hO hm hr
   go_wp2
   go_region_law (first
    | (refine step_appV _ Tryz.infoInt rfl rfl Tryz.underlying25 ⟨rfl, by omega, by omega⟩ (dInt.one _) (dInt.stable (Cut S w.heap.size) .i64) wr.heap.size Hown0.out rfl Hu.out rfl (by have := Hml.out; simp; omega) (by simp) ?_; intro a' n' c' W5 hg hat hoo; obtain ⟨j1, j2, j3, j4, j5, j6, j7, j8⟩ := Hin.out a' n' c' W5 hg hoo)
    | (refine step_appX _ Tryz.infoRow rfl rfl Tryz.underlying22 ⟨rfl, by omega, by omega⟩ famRow W2.heap.size j6.out rfl (g := W5.heap.size) (cs := [.slice a' n' c', .int .i64 many]) (y := r) (box_new _ _) rfl j7.out rfl (by have := Hm.out; omega) (by rw [Hz2.out]; simp; omega) ?_; intro a2 n2 c2 W6 hg6 ho6))
   all_goals
    go_wp2
    exact ⟨⟨m + 1, by omega, by go_num, Lib.hid (by rw [Htk.out]; exact ho6), j8.grown hg6 (by rw [Hz2.out]; simp; omega) Hlo2.out⟩, by simp [intOf]; omega⟩
  ·obtain rfl : k = n := by omega
   have hO2 := hO.out
   rw [List.take_of_length_le (by rw [Hn.out]; exact Nat.le_refl _)] at hO2
   have hm2 : m = rows.length := by rw [← hm, List.take_of_length_le (by rw [Hn.out]; exact Nat.le_refl _)]
   obtain ⟨r2, gd, ge⟩ := own_box hbW (by rw [Hz2.out]; omega) G2.out
   have gc0 := gc 0; have gc1 := gc 1; have gf0 := gf 0; have gf1 := gf 1; have gf2 := gf 2
   have gd0 := gd 0; have gd1 := gd 1; have gd2 := gd 2; have ge0 := ge 0; have ge1 := ge 1; have ge2 := ge 2
   have hlt2 := size_of_box r2
   have hrr : RRows (From W2.heap.size) wr (.slice aov m cov) rows := RSl.mono (fun _ _ _ hd => dRow.mono (fun b hb => hb.1) hd) (fun b hb => hb.1) (OwnX.rsl famRow (by omega) hO2 (by rw [Hn.out]; omega))
   have hG : ∀ w', Same (From W2.heap.size) wr w' → Below w.heap.size w w' → GivesP ⟨cands, kind, rows⟩ w (.returned (.agg #[.int .i64 cands, .int .u8 kind, .slice aov m cov])) w' := fun w' hs hbb =>
    ⟨_, rfl, ⟨aov, cov, by rw [hm2], hk1, hk2, by rw [← hm2]; exact RRows.mono (fun b hb' => Nat.le_trans (by rw [Hz2.out]; omega) hb') (hrr.same hs)⟩, hbb⟩
   have HG := Lib.hid hG; have Hb := Lib.hid hb
   clear hG hrr hO2 hm2 hO hm gc gf gd ge r1 r2
   go_wp2
   refine bodyPost_ret (v := .agg #[.int .i64 cands, .int .u8 kind, .slice aov m cov]) (by simp [results, Tryz.results15, go_sem, gd0, gd1, gd2]) rfl (HG.out _ ?_ ?_)
   ·exact ((((Same.refl _ _).setCell (by simp [From, Hz2.out]) _).setCell (by simp [From, Hz2.out]) _).setCell (by simp [From, Hz2.out]) _).setCell (by simp [From, Hz2.out]) _
   ·exact (((Hb.out.setCell (p := ⟨w.heap.size, 2, none⟩) (by simp) _).setCell (p := ⟨w.heap.size + 1, 0, none⟩) (by simp) _).setCell (p := ⟨w.heap.size + 1, 1, none⟩) (by simp) _).setCell (p := ⟨w.heap.size + 1, 2, none⟩) (by simp) _
end Go.Proofs.YthcbkhfmdginiaaGreat
