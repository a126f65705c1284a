/- Texts of one claim,put together: ArgP,Chain,SamO,SamP. -/
import Derived.Test.YthcbkhfmdginiaaGreatRGFoot
import Derived.Test.YthcbkhfmdginiaaGreatProg
import Derived.Test.YthcbkhfmdginiaaGreatRGProf
import Derived.Test.YthcbkhfmdginiaaGreatRGOne
import Derived.Test.YthcbkhfmdginiaaGreatRGNat
import Derived.Test.YthcbkhfmdginiaaGreatRGNatR
import Derived.Test.YthcbkhfmdginiaaGreatRGRul
import Derived.KernelRfl
import Derived.Lib.SmallJoins
import Derived.Handy

namespace Go.Proofs.YthcbkhfmdginiaaGreat
section
open Go Go.RowKit Go.Deep Go.ChangeShapes Go.WideShapes Go.ChangeAt

theorem Tryz.cellsInt : Tryz.prog.cellsOf 3 = 1 := by kernel_rfl
theorem Tryz.bytesInt : Tryz.prog.bytesOf 3 = 8 := by kernel_rfl
theorem Tryz.cellsInts : Tryz.prog.cellsOf 25 = 1 := by kernel_rfl
theorem Tryz.cellsRow : Tryz.prog.cellsOf 66 = 2 := by kernel_rfl
theorem Tryz.bytesRow : Tryz.prog.bytesOf 66 = 32 := by kernel_rfl
theorem Tryz.cellsProf : Tryz.prog.cellsOf 24 = 3 := by kernel_rfl
theorem Tryz.own : ownKnob Tryz.prog.godebug = none := by kernel_rfl
theorem Tryz.laidOut : laidOutB Tryz.prog = true := by kernel_rfl

section
variable {H : Type} {enc : TypeId × Value → H} {w : World} {base : Nat} {spare : Nat → Bool} {held : Bool}
theorem wf_u8 {x : Int} (h : (Lit.int .u8 x).wf = true) : 0 ≤ x ∧ x ≤ 255 := by
 simp [Lit.wf,IntKind.min,IntKind.max,IntKind.bits,IntKind.signed] at h
 omega
theorem ints_of {fuel : Nat} {cs : List Value} {x : DataW H × List MemPlace} (h : DataW.trod enc Tryz.prog w base spare held fuel 25 cs = some x) (hz : ∀ m ∈ x.1.weights Tryz.prog 25,m ≤ reachBytes) : ∃ v xs,cs = [v] ∧ RInts Any w v xs :=
 rsl_of_trod Tryz.underlying25 Tryz.cellsInt (by omega) (by rw [Tryz.bytesInt];omega) h hz (fun _ _ _ hy _ => int_of_trod Tryz.underlying3 hy)
set_option maxRecDepth 100000 in
theorem row_of {fuel : Nat} {cs : List Value} {x : DataW H × List MemPlace} (h : DataW.trod enc Tryz.prog w base spare held fuel 66 cs = some x) (hz : ∀ m ∈ x.1.weights Tryz.prog 66,m ≤ reachBytes) : ∃ a,dRow Any w cs a := by
 obtain ⟨y0,y1,n,rfl,hl,h0,h1⟩ := trod_struct2 Tryz.underlying66 h
 rw [Tryz.cellsRow] at hl
 match cs,hl with
 | [c,d],_ =>
  simp only [Tryz.cellsInt,Tryz.cellsInts,List.drop_zero,List.take_succ_cons,List.take_zero,List.drop_succ_cons] at h0 h1
  obtain ⟨v,xs,e0,hr⟩ := ints_of h0 (fun m hm => hz m (by simp [DataW.weights,Tryz.underlying66,DataW.weightsEach,hm]))
  obtain ⟨many,e1,hk⟩ := int_of_trod Tryz.underlying3 h1
  simp only [List.cons.injEq,and_true] at e0 e1
  subst e0 e1
  exact ⟨⟨xs,many⟩,_,rfl,hk,hr⟩
set_option maxRecDepth 100000 in
theorem arg_prof {b0 : Nat} {v : Value} {d : DataW H} {ps : List MemPlace} (hv : Value.okWide Tryz.prog w .any b0 24 v) (h : DataW.Trod enc Tryz.prog w base spare held 24 v d ps)
  (hz : ∀ m ∈ d.weights Tryz.prog 24,m ≤ reachBytes) : ∃ x,VProf Any w v x := by
 obtain ⟨v0,v1,v2,y0,y1,y2,n,rfl,rfl,rfl,h0,h1,h2⟩ := Go.Joins.open_agg3 Tryz.underlying24 (by kernel_rfl) Tryz.cellsProf hv h
 obtain ⟨cands,e0,-⟩ := int_of_trod Tryz.underlying3 h0
 obtain ⟨kind,e1,hk⟩ := int_of_trod Tryz.underlying5 h1
 obtain ⟨u2,xs,e2,hr⟩ := rsl_of_trod (α := Row) (dec := dRow Any) Tryz.underlying22 Tryz.cellsRow (by omega) (by rw [Tryz.bytesRow];omega) h2
  (fun m hm => hz m (by simp [DataW.weights,Tryz.underlying24,DataW.weightsEach,hm])) (fun _ _ _ hy hm => row_of hy hm)
 simp only [List.cons.injEq,and_true] at e0 e1 e2
 subst e0 e1 e2
 obtain ⟨a,c,rfl,-,-⟩ := RSl.shape hr
 exact ⟨⟨cands,kind,xs⟩,a,c,rfl,(wf_u8 hk).1,(wf_u8 hk).2,hr⟩
set_option maxRecDepth 100000 in
theorem arg_ints {b0 : Nat} {v : Value} {d : DataW H} {ps : List MemPlace} (hv : Value.okWide Tryz.prog w .any b0 25 v) (h : DataW.Trod enc Tryz.prog w base spare held 25 v d ps)
  (hz : ∀ m ∈ d.weights Tryz.prog 25,m ≤ reachBytes) : ∃ xs,RInts Any w v xs := by
 obtain ⟨a,n,c,rfl⟩ := okWide_slice Tryz.underlying25 hv
 obtain ⟨fuel,hf⟩ := h
 obtain ⟨u,xs,e,hr⟩ := ints_of hf hz
 simp [Value.cells] at e
 exact ⟨xs,e ▸ hr⟩
end
theorem weights_at {H : Type} {P : Program} {ts : List TypeId} {ds : List (DataW H)} (hz : (DataW.weightsEach P ts ds).all (· ≤ reachBytes) = true) (j : Nat) {t : TypeId} {d : DataW H} (ht : ts[j]? = some t) (hd : ds[j]? = some d) : ∀ m ∈ d.weights P t,m ≤ reachBytes :=
 fun m hm => by simpa using List.all_eq_true.1 hz m (DataW.weights_mem_each ht hd m hm)
end

section
open Go Go.RowKit

theorem RSl.laidN {α : Type} {n : Nat} {dec : World → List Value → α → Prop} {w : World} {g : Nat} {cells : List Value} {e : TypeId} {xs : List α} {S : Nat → Prop} (hS : S g) (hg : w.heap[g]? = some (.cells cells.toArray e (0,0))) (h : Dec n dec w cells xs) (hl : xs.length ≤ 1000000000) :
  RSl S n dec w (.slice (some ⟨g,0,none⟩) xs.length xs.length) xs := by
 refine ⟨_,xs.length,cells,rfl,Nat.le_refl _,by omega,h,.inr ⟨g,0,rfl,hS,fun j u hu => ?_⟩⟩
 rw [Nat.zero_add]
 simp only [World.cell?,hg]
 simpa using hu
theorem bt {A B C : World} (h : Below A.heap.size A B) (k : Below B.heap.size B C) : Below A.heap.size A C := h.trans (k.mono h.size)
theorem bel_st {B : Nat} {w W w' : World} (h : Below B w W) (hb : Below W.heap.size W w') (hB : B ≤ W.heap.size) : Below B w w' := h.trans (hb.mono hB)
def lays (w : World) : List Obj → World
 | [] => w
 | o :: os => lays (w.alloc o) os
theorem lays_below : ∀ (os : List Obj) (w : World),Below w.heap.size w (lays w os)
 | [],w => Below.refl _ w
 | o :: os,w => (qa1 w o).trans ((lays_below os (w.alloc o)).mono (by simp))
theorem qau : ∀ (os : List Obj) (w : World) (j : Nat) {o : Obj},os[j]? = some o → (lays w os).heap[w.heap.size + j]? = some o
 | o :: os,w,0,_,h => by
  simp only [List.getElem?_cons_zero,Option.some.injEq] at h
  subst h
  exact ((lays_below os (w.alloc o)).block _ (by simp)).trans (qa8 w o)
 | o :: os,w,j + 1,_,h => by
  have := qau os (w.alloc o) j (by simpa using h)
  rw [World.size_alloc,Nat.add_right_comm,Nat.add_assoc] at this
  exact this
theorem lay_at {w W : World} {os : List Obj} (hb : Below (lays w os).heap.size (lays w os) W) (j : Nat) {o : Obj} (h : os[j]? = some o) : W.heap[w.heap.size + j]? = some o :=
 (hb.block _ (qa0 (qau os w j h))).trans (qau os w j h)
theorem box3 {W w1 : World} {g : Nat} {a b c : Value} {e : TypeId} (hg : W.heap[g]? = some (.cells #[a,b,c] e (0,0))) (hb : Below W.heap.size W w1) : w1.cell? ⟨g,0,none⟩ = some a ∧ w1.cell? ⟨g,1,none⟩ = some b ∧ w1.cell? ⟨g,2,none⟩ = some c ∧ g < w1.heap.size := by
 obtain ⟨h1,h2,-⟩ := qa6 hb (qa0 hg) hg
 exact ⟨h2 0,h2 1,h2 2,qa0 h1⟩
theorem qb5 {W : World} {g : Nat} {e : TypeId} {xs : List Int} (h : W.heap[g]? = some (.cells (xs.map (Value.int .i64)).toArray e (0,0))) (hw : ∀ x ∈ xs,(Lit.int .i64 x).wf = true) (hl : xs.length ≤ 1000000) : RInts Any W (.slice (some ⟨g,0,none⟩) xs.length xs.length) xs :=
 Arr.all (k := .i64) (show Arr .i64 W g e xs from h) (S := Any) trivial hw (by omega) rfl (Nat.le_refl _)
end

section
open Go Go.RowKit Go.Shelf

def eqRt (x y : Rt) : Bool := decide (x.neg = y.neg) && (eqL eqInt x.num y.num && eqL eqInt x.den y.den)
theorem eqRt_refl (x : Rt) : eqRt x x = true := by simp [eqRt,eqL_refl (p := eqInt) (fun x => by simp [eqInt])]
set_option maxHeartbeats 1000000 in
theorem r04Same (S T : Nat → Prop) (u v : Value) (x y : Rt) (w : World) (hx : VRt S w u x) (hy : VRt T w v y) :
  Calls Tryz.prog 51 #[u,v] w fun e w' => e = .returned (.bool (eqRt x y)) ∧ Below w.heap.size w w' := by
 obtain ⟨xn,xd,rfl,hx1,hx2⟩ := hx
 obtain ⟨yn,yd,rfl,hy1,hy2⟩ := hy
 obtain ⟨a1,c1,rfl,-,-⟩ := RSl.shape hx1
 obtain ⟨a2,c2,rfl,-,-⟩ := RSl.shape hx2
 obtain ⟨a3,c3,rfl,-,-⟩ := RSl.shape hy1
 obtain ⟨a4,c4,rfl,-,-⟩ := RSl.shape hy2
 obtain ⟨W2,hW2⟩ : ∃ W2,W2 = (w.alloc (.cells #[.bool x.neg,.slice a1 x.num.length c1,.slice a2 x.den.length c2] 56)).alloc (.cells #[.bool y.neg,.slice a3 y.num.length c3,.slice a4 y.den.length c4] 56) := ⟨_,rfl⟩
 have hb0 : Below w.heap.size w W2 := by rw [hW2];exact ((Below.refl _ _).alloc (Nat.le_refl _) _).alloc (by simp) _
 have hz2 : W2.heap.size = w.heap.size + 2 := by rw [hW2];simp
 have g1 : W2.heap[w.heap.size]? = some (.cells #[.bool x.neg,.slice a1 x.num.length c1,.slice a2 x.den.length c2] 56 (0,0)) := by rw [hW2];exact qay _ (qa8 w _)
 have g2 : W2.heap[w.heap.size + 1]? = some (.cells #[.bool y.neg,.slice a3 y.num.length c3,.slice a4 y.den.length c4] 56 (0,0)) := by
  have := qa8 (w.alloc (.cells #[.bool x.neg,.slice a1 x.num.length c1,.slice a2 x.den.length c2] 56)) (.cells #[.bool y.neg,.slice a3 y.num.length c3,.slice a4 y.den.length c4] 56)
  rw [hW2];rwa [World.size_alloc] at this
 have hA := r3Same S T _ _ _ _ W2 (hx1.same (.of_below hb0)) (hy1.same (.of_below hb0))
 have hB := fun W (hW : Below w.heap.size w W) => r3Same S T _ _ _ _ W (hx2.same (.of_below hW)) (hy2.same (.of_below hW))
 obtain ⟨p1,h1⟩ : ∃ p,eqL eqInt x.num y.num = p := ⟨_,rfl⟩
 obtain ⟨p2,h2⟩ : ∃ p,eqL eqInt x.den y.den = p := ⟨_,rfl⟩
 obtain ⟨R,hR⟩ : ∃ R,eqRt x y = R := ⟨_,rfl⟩
 have hR2 : R = (decide (x.neg = y.neg) && (p1 && p2)) := by rw [← hR,← h1,← h2];rfl
 rw [h1] at hA
 rw [h2] at hB
 rw [hR]
 obtain ⟨n1,e1⟩ : ∃ n,x.neg = n := ⟨_,rfl⟩
 obtain ⟨n2,e2⟩ : ∃ n,y.neg = n := ⟨_,rfl⟩
 obtain ⟨m1,l1⟩ : ∃ n,x.num.length = n := ⟨_,rfl⟩
 obtain ⟨m2,l2⟩ : ∃ n,x.den.length = n := ⟨_,rfl⟩
 obtain ⟨m3,l3⟩ : ∃ n,y.num.length = n := ⟨_,rfl⟩
 obtain ⟨m4,l4⟩ : ∃ n,y.den.length = n := ⟨_,rfl⟩
 rw [e1,l1,l2] at g1 hW2 ⊢
 rw [e2,l3,l4] at g2 hW2 ⊢
 rw [l1,l3] at hA
 simp only [l2,l4] at hB
 rw [e1,e2] at hR2
 have hA2 := hA
 rw [hW2] at hA2
 have HA := Lib.hid hA2;have HB := Lib.hid hB;have G1 := Lib.hid g1;have G2 := Lib.hid g2;have HW2 := Lib.hid hW2;have Hb0 := Lib.hid hb0;have Hz2 := Lib.hid hz2
 clear hA hA2 hB g1 g2 hW2 hb0 hz2 hR h1 h2 e1 e2 l1 l2 l3 l4 hx1 hx2 hy1 hy2
 cases n1 <;> cases n2 <;> cases p1 <;> cases p2 <;> (
  simp at hR2
  subst hR2
  go_enter Tryz.func51,Tryz.ntmps51
  go_wp2_with (first
   | (go_at_call_of 118 (Value.slice a1 m1 c1);refine HA.out.mono ?_;rintro e w1 ⟨rfl,hb1⟩;rw [← HW2.out] at hb1;have hq1 := Hb0.out.trans (hb1.mono (by rw [Hz2.out];omega));obtain ⟨-,gc,-⟩ := qa6 hb1 (by rw [Hz2.out];omega) G1.out;obtain ⟨-,gd,-⟩ := qa6 hb1 (by rw [Hz2.out];omega) G2.out;have gc2 := gc 2;have gd2 := gd 2;have hlt1 := hb1.size;rw [Hz2.out] at hlt1;have hlt2 : w.heap.size < w1.heap.size := (by omega);have hlt3 : w.heap.size + 1 < w1.heap.size := (by omega);clear gc gd hb1)
   | (go_at_call_of 118 (Value.slice a2 m2 c2);refine (HB.out _ hq1).mono ?_;rintro e w2 ⟨rfl,hb2⟩;replace hq1 := hq1.trans (hb2.mono hq1.size)))
  go_ret
  first | exact ⟨rfl,hq1⟩ | exact ⟨rfl,by have := Hb0.out;rw [HW2.out] at this;exact this⟩)
def GivesTrue (w : World) (e : Ending) (w' : World) : Prop := e = .returned (.bool true) ∧ Below w.heap.size w w'
set_option maxHeartbeats 1000000 in
theorem r04All_eq (S T : Nat → Prop) (u v : Value) (xs : List Rt) (w : World) (hx : RRts S w u xs) (hy : RRts T w v xs) : Calls Tryz.prog 145 #[u,v] w (GivesTrue w) := by
 obtain ⟨a1,cap1,rfl,hx1,hx2⟩ := RSl.shape hx
 obtain ⟨a2,cap2,rfl,hy1,hy2⟩ := RSl.shape hy
 obtain ⟨n,hn⟩ : ∃ n,xs.length = n := ⟨_,rfl⟩
 have hne : ((n : Int) != (n : Int)) = false := by simp
 rw [hn] at hx hy hx2 ⊢
 have HX := Lib.hid hx;have HY := Lib.hid hy;have Hn := Lib.hid hn
 clear hx hy hx1 hy1 hy2 hn
 go_enter Tryz.func145,Tryz.ntmps145
 go_wp2
 go_loopw [5] (fun i wr => ∃ k : Nat,k ≤ n ∧ i = .int .i64 k ∧ Below w.heap.size w wr) (fun i _ => n - (intOf i).toNat)
 case atStart => exact ⟨0,Nat.zero_le _,rfl,Below.refl _ _⟩
 case round =>
  obtain ⟨k,hk,rfl,hb⟩ := hrel
  have hz := hb.size
  by_cases hlt : k < n
  ·have hlk : k < xs.length := by rw [Hn.out]; exact hlt
   obtain ⟨b,off,c,d,e,rfl,-,-,hc,hd,he,hx⟩ := RSl.at3 HX.out k hlk
   obtain ⟨b2,off2,c',d',e',rfl,-,-,hc',hd',he',hy⟩ := RSl.at3 HY.out k hlk
   have hF := fun W (hW : Below w.heap.size w W) => r04Same S T (.agg #[c,d,e]) (.agg #[c',d',e']) _ _ W (by obtain ⟨vn,vd,h1,h2,h3⟩ := dRt.stable _ _ W _ _ (.of_below hW) hx;simp only [List.cons.injEq,and_true] at h1;obtain ⟨rfl,rfl,rfl⟩ := h1;exact ⟨_,_,rfl,h2,h3⟩) (by obtain ⟨vn,vd,h1,h2,h3⟩ := dRt.stable _ _ W _ _ (.of_below hW) hy;simp only [List.cons.injEq,and_true] at h1;obtain ⟨rfl,rfl,rfl⟩ := h1;exact ⟨_,_,rfl,h2,h3⟩)
   simp only [eqRt_refl] at hF
   obtain ⟨k1,q1,k2,q2,rfl,rfl,rfl,-,-⟩ := hx.open
   obtain ⟨k3,q3,k4,q4,rfl,rfl,rfl,-,-⟩ := hy.open
   have hS := Same.of_below (S := Any) hb
   have e1 := fun p => qa7 (w := wr) (hS.cell trivial hc) p
   have e2 := fun p => qa7 (w := wr) (hS.cell trivial hd) p
   have e3 := fun p => qa7 (w := wr) (hS.cell trivial he) p
   have e4 := fun p => qa7 (w := wr) (hS.cell trivial hc') p
   have e5 := fun p => qa7 (w := wr) (hS.cell trivial hd') p
   have e6 := fun p => qa7 (w := wr) (hS.cell trivial he') p
   have hF1 := fun p => hF (ext wr p) (hb.trans ((qa4 wr p).mono hz))
   have HF := Lib.hid hF1
   clear hF hF1 hc hd he hc' hd' he' hx hy hS
   go_wp2
   refine qa3 (by kernel_rfl) (by kernel_rfl) ?_
   repeat (go_big_quiet_step ((go_at_call 51;have hh := HF.out;exact qab (v := .bool true) (hh _))))
   refine wpQuiet_nil ?_
   intro w2 hw'
   have hb12 : Below wr.heap.size wr w2 := by obtain ⟨p,rfl⟩ := hw';exact qa4 wr p
   clear hw' e1 e2 e3 e4 e5 e6 HF
   have hb2 := hb.trans (hb12.mono hz)
   go_wp2
   exact ⟨⟨k + 1,by omega,by go_num,hb2⟩,by simp [intOf];omega⟩
  ·go_wp2
   go_ret
   exact ⟨rfl,hb⟩
end

section
open Go Go.RowKit Go.Shelf

theorem ints_eq (S T : Nat → Prop) (u v : Value) (xs : List Int) (w : World) (hx : RInts S w u xs) (hy : RInts T w v xs) : Calls Tryz.prog 24 #[u,v] w (GivesTrue w) :=
 (ints08 S T u v xs xs w hx hy).mono fun e w' ⟨h1,h2⟩ => ⟨by rw [h1,eqL_refl (p := eqInt) (fun x => by simp [eqInt])],h2⟩
theorem r04Same_eq (S T : Nat → Prop) (u v : Value) (x : Rt) (w : World) (hx : VRt S w u x) (hy : VRt T w v x) : Calls Tryz.prog 51 #[u,v] w (GivesTrue w) :=
 (r04Same S T u v x x w hx hy).mono fun e w' ⟨h1,h2⟩ => ⟨by rw [h1,eqRt_refl],h2⟩
theorem dRnd.open {S : Nat → Prop} {w : World} {c0 c1 c2 c3 c4 c5 : Value} {x : Rnd} (h : dRnd S w [c0,c1,c2,c3,c4,c5] x) :
  ∃ a0 m0 k0 a2 m2 k2 a3 m3 k3 a4 m4 k4 a5 m5 k5,c0 = .slice a0 m0 k0 ∧ c1 = .bool x.lost.neg ∧ c2 = .slice a2 m2 k2 ∧ c3 = .slice a3 m3 k3 ∧ c4 = .slice a4 m4 k4 ∧ c5 = .slice a5 m5 k5 ∧
   RRts S w (.slice a0 m0 k0) x.had ∧ VRt S w (.agg #[.bool x.lost.neg,.slice a2 m2 k2,.slice a3 m3 k3]) x.lost ∧ RInts S w (.slice a4 m4 k4) x.elected ∧ RInts S w (.slice a5 m5 k5) x.out := by
 obtain ⟨v0,vn,vd,v1,v2,h1,h2,h3,h4,h5,h6⟩ := h
 simp only [List.cons.injEq,and_true] at h1
 obtain ⟨rfl,rfl,rfl,rfl,rfl,rfl⟩ := h1
 obtain ⟨a0,k0,rfl,-,-⟩ := RSl.shape h2
 obtain ⟨a2,k2,rfl,-,-⟩ := RSl.shape h3
 obtain ⟨a3,k3,rfl,-,-⟩ := RSl.shape h4
 obtain ⟨a4,k4,rfl,-,-⟩ := RSl.shape h5
 obtain ⟨a5,k5,rfl,-,-⟩ := RSl.shape h6
 exact ⟨_,_,_,_,_,_,_,_,_,_,_,_,_,_,_,rfl,rfl,rfl,rfl,rfl,rfl,h2,⟨_,_,rfl,h3,h4⟩,h5,h6⟩
set_option maxHeartbeats 2000000 in
set_option maxRecDepth 100000 in
theorem r11Rounds_eq (S T : Nat → Prop) (u v : Value) (xs : List Rnd) (w : World) (hx : RRnds S w u xs) (hy : RRnds T w v xs) : Calls Tryz.prog 76 #[u,v] w (GivesTrue w) := by
 obtain ⟨a1,cap1,rfl,hx1,hx2⟩ := RSl.shape hx
 obtain ⟨a2,cap2,rfl,hy1,hy2⟩ := RSl.shape hy
 obtain ⟨n,hn⟩ : ∃ n,xs.length = n := ⟨_,rfl⟩
 have hne : ((n : Int) != (n : Int)) = false := by simp
 rw [hn] at hx hy hx2 ⊢
 have HX := Lib.hid hx;have HY := Lib.hid hy;have Hn := Lib.hid hn
 clear hx hy hx1 hy1 hy2 hn
 go_enter Tryz.func76,Tryz.ntmps76
 go_wp2
 go_loopw [5] (fun i wr => ∃ k : Nat,k ≤ n ∧ i = .int .i64 k ∧ Below w.heap.size w wr) (fun i _ => n - (intOf i).toNat)
 case atStart => exact ⟨0,Nat.zero_le _,rfl,Below.refl _ _⟩
 case round =>
  obtain ⟨k,hk,rfl,hb⟩ := hrel
  have hz := hb.size
  by_cases hlt : k < n
  ·have hlk : k < xs.length := by rw [Hn.out]; exact hlt
   obtain ⟨b,off,c0,c1,c2,c3,c4,c5,rfl,-,-,x0,x1,x2,x3,x4,x5,hx⟩ := RSl.at6 HX.out k hlk
   obtain ⟨b',off',d0,d1,d2,d3,d4,d5,rfl,-,-,y0,y1,y2,y3,y4,y5,hy⟩ := RSl.at6 HY.out k hlk
   obtain ⟨p0,m0,q0,p2,m2,q2,p3,m3,q3,p4,m4,q4,p5,m5,q5,rfl,rfl,rfl,rfl,rfl,rfl,hx0,hx2,hx4,hx5⟩ := hx.open
   obtain ⟨s0,n0,t0,s2,n2,t2,s3,n3,t3,s4,n4,t4,s5,n5,t5,rfl,rfl,rfl,rfl,rfl,rfl,hy0,hy2,hy4,hy5⟩ := hy.open
   have hF0 := fun p => r04All_eq S T _ _ _ (ext wr p) (hx0.same (.of_below (hb.trans ((qa4 wr p).mono hz)))) (hy0.same (.of_below (hb.trans ((qa4 wr p).mono hz))))
   have hF2 := fun p => r04Same_eq S T _ _ _ (ext wr p) (hx2.same (.of_below (hb.trans ((qa4 wr p).mono hz)))) (hy2.same (.of_below (hb.trans ((qa4 wr p).mono hz))))
   have hF4 := fun p => ints_eq S T _ _ _ (ext wr p) (hx4.same (.of_below (hb.trans ((qa4 wr p).mono hz)))) (hy4.same (.of_below (hb.trans ((qa4 wr p).mono hz))))
   have hF5 := fun p => ints_eq S T _ _ _ (ext wr p) (hx5.same (.of_below (hb.trans ((qa4 wr p).mono hz)))) (hy5.same (.of_below (hb.trans ((qa4 wr p).mono hz))))
   obtain ⟨ng,hng⟩ : ∃ g,xs[k].lost.neg = g := ⟨_,rfl⟩
   rw [hng] at x1 y1 hF2
   have hS := Same.of_below (S := Any) hb
   have e0 := fun p => qa7 (w := wr) (hS.cell trivial x0) p
   have e1 := fun p => qa7 (w := wr) (hS.cell trivial x1) p
   have e2 := fun p => qa7 (w := wr) (hS.cell trivial x2) p
   have e3 := fun p => qa7 (w := wr) (hS.cell trivial x3) p
   have e4 := fun p => qa7 (w := wr) (hS.cell trivial x4) p
   have e5 := fun p => qa7 (w := wr) (hS.cell trivial x5) p
   have f0 := fun p => qa7 (w := wr) (hS.cell trivial y0) p
   have f1 := fun p => qa7 (w := wr) (hS.cell trivial y1) p
   have f2 := fun p => qa7 (w := wr) (hS.cell trivial y2) p
   have f3 := fun p => qa7 (w := wr) (hS.cell trivial y3) p
   have f4 := fun p => qa7 (w := wr) (hS.cell trivial y4) p
   have f5 := fun p => qa7 (w := wr) (hS.cell trivial y5) p
   have HF0 := Lib.hid hF0;have HF2 := Lib.hid hF2;have HF4 := Lib.hid hF4;have HF5 := Lib.hid hF5
   clear hF0 hF2 hF4 hF5 x0 x1 x2 x3 x4 x5 y0 y1 y2 y3 y4 y5 hx hy hx0 hx2 hx4 hx5 hy0 hy2 hy4 hy5 hng hS
   go_wp2
   refine qa3 (by kernel_rfl) (by kernel_rfl) ?_
   repeat (go_big_quiet_step ((first
    | (go_at_call 145;have hh := HF0.out;exact qab (v := .bool true) (hh _))
    | (go_at_call 51;have hh := HF2.out;exact qab (v := .bool true) (hh _))
    | (go_at_call_of 24 (Value.slice p4 m4 q4);have hh := HF4.out;exact qab (v := .bool true) (hh _))
    | (go_at_call_of 24 (Value.slice p5 m5 q5);have hh := HF5.out;exact qab (v := .bool true) (hh _)))))
   refine wpQuiet_nil ?_
   intro w2 hw'
   have hb12 : Below wr.heap.size wr w2 := by obtain ⟨p,rfl⟩ := hw';exact qa4 wr p
   clear hw' e0 e1 e2 e3 e4 e5 f0 f1 f2 f3 f4 f5 HF0 HF2 HF4 HF5
   have hb2 := hb.trans (hb12.mono hz)
   go_wp2
   exact ⟨⟨k + 1,by omega,by go_num,hb2⟩,by simp [intOf];omega⟩
  ·go_wp2
   go_ret
   exact ⟨rfl,hb⟩
set_option maxHeartbeats 1000000 in
theorem r11Ties_eq (S T : Nat → Prop) (u v : Value) (xs : List Tie) (w : World) (hx : RTies S w u xs) (hy : RTies T w v xs) : Calls Tryz.prog 58 #[u,v] w (GivesTrue w) := by
 obtain ⟨a1,cap1,rfl,hx1,hx2⟩ := RSl.shape hx
 obtain ⟨a2,cap2,rfl,hy1,hy2⟩ := RSl.shape hy
 obtain ⟨n,hn⟩ : ∃ n,xs.length = n := ⟨_,rfl⟩
 have hne : ((n : Int) != (n : Int)) = false := by simp
 rw [hn] at hx hy hx2 ⊢
 have HX := Lib.hid hx;have HY := Lib.hid hy;have Hn := Lib.hid hn
 clear hx hy hx1 hy1 hy2 hn
 go_enter Tryz.func58,Tryz.ntmps58
 go_wp2
 go_loopw [5] (fun i wr => ∃ k : Nat,k ≤ n ∧ i = .int .i64 k ∧ Below w.heap.size w wr) (fun i _ => n - (intOf i).toNat)
 case atStart => exact ⟨0,Nat.zero_le _,rfl,Below.refl _ _⟩
 case round =>
  obtain ⟨k,hk,rfl,hb⟩ := hrel
  have hz := hb.size
  by_cases hlt : k < n
  ·have hlk : k < xs.length := by rw [Hn.out]; exact hlt
   obtain ⟨b,off,c,d,rfl,-,-,hc,hd,hx⟩ := RSl.at2 HX.out k hlk
   obtain ⟨b2,off2,c',d',rfl,-,-,hc',hd',hy⟩ := RSl.at2 HY.out k hlk
   obtain ⟨k1,q1,rfl,rfl,-,-,hI⟩ := hx.open
   obtain ⟨k2,q2,rfl,rfl,-,-,hJ⟩ := hy.open
   have hF := fun p => ints_eq S T _ _ _ (ext wr p) (hI.same (.of_below (hb.trans ((qa4 wr p).mono hz)))) (hJ.same (.of_below (hb.trans ((qa4 wr p).mono hz))))
   obtain ⟨ch,hch⟩ : ∃ c,xs[k].chosen = c := ⟨_,rfl⟩
   obtain ⟨ml,hml⟩ : ∃ m,xs[k].among.length = m := ⟨_,rfl⟩
   rw [hch] at hd hd'
   rw [hml] at hc hc' hF
   have hS := Same.of_below (S := Any) hb
   have e1 := fun p => qa7 (w := wr) (hS.cell trivial hc) p
   have e2 := fun p => qa7 (w := wr) (hS.cell trivial hd) p
   have e4 := fun p => qa7 (w := wr) (hS.cell trivial hc') p
   have e5 := fun p => qa7 (w := wr) (hS.cell trivial hd') p
   have hcc : (ch != ch) = false := by simp
   have HF := Lib.hid hF
   clear hF hc hd hc' hd' hx hy hI hJ hch hml hS
   go_wp2
   refine qa3 (by kernel_rfl) (by kernel_rfl) ?_
   repeat (go_big_quiet_step ((go_at_call 24;have hh := HF.out;exact qab (v := .bool true) (hh _))))
   refine wpQuiet_nil ?_
   intro w2 hw'
   have hb12 : Below wr.heap.size wr w2 := by obtain ⟨p,rfl⟩ := hw';exact qa4 wr p
   clear hw' e1 e2 e4 e5 HF
   have hb2 := hb.trans (hb12.mono hz)
   go_wp2
   exact ⟨⟨k + 1,by omega,by go_num,hb2⟩,by simp [intOf];omega⟩
  ·go_wp2
   go_ret
   exact ⟨rfl,hb⟩
set_option maxHeartbeats 1000000 in
theorem r11Same_eq (S T : Nat → Prop) (u v : Value) (o : Outc) (w : World) (hx : VOutc S w u o) (hy : VOutc T w v o) : Calls Tryz.prog 22 #[u,v] w (GivesTrue w) := by
 obtain ⟨u1,u2,u3,rfl,hx1,hx2,hx3⟩ := hx
 obtain ⟨v1,v2,v3,rfl,hy1,hy2,hy3⟩ := hy
 obtain ⟨a1,m1,c1,rfl⟩ := RSl.slice hx1
 obtain ⟨a2,m2,c2,rfl⟩ := RSl.slice hx2
 obtain ⟨a3,m3,c3,rfl⟩ := RSl.slice hx3
 obtain ⟨b1,n1,d1,rfl⟩ := RSl.slice hy1
 obtain ⟨b2,n2,d2,rfl⟩ := RSl.slice hy2
 obtain ⟨b3,n3,d3,rfl⟩ := RSl.slice hy3
 obtain ⟨W2,hW2⟩ : ∃ W2,W2 = (w.alloc (.cells #[.slice a1 m1 c1,.slice a2 m2 c2,.slice a3 m3 c3] 32)).alloc (.cells #[.slice b1 n1 d1,.slice b2 n2 d2,.slice b3 n3 d3] 32) := ⟨_,rfl⟩
 have hb0 : Below w.heap.size w W2 := by rw [hW2];exact ((Below.refl _ _).alloc (Nat.le_refl _) _).alloc (by simp) _
 have hz2 : W2.heap.size = w.heap.size + 2 := by rw [hW2];simp
 have g1 : W2.heap[w.heap.size]? = some (.cells #[.slice a1 m1 c1,.slice a2 m2 c2,.slice a3 m3 c3] 32 (0,0)) := by rw [hW2];exact qay _ (qa8 w _)
 have g2 : W2.heap[w.heap.size + 1]? = some (.cells #[.slice b1 n1 d1,.slice b2 n2 d2,.slice b3 n3 d3] 32 (0,0)) := by
  have := qa8 (w.alloc (.cells #[.slice a1 m1 c1,.slice a2 m2 c2,.slice a3 m3 c3] 32)) (.cells #[.slice b1 n1 d1,.slice b2 n2 d2,.slice b3 n3 d3] 32)
  rw [hW2];rwa [World.size_alloc] at this
 have hA := ints_eq S T _ _ _ W2 (hx1.same (.of_below hb0)) (hy1.same (.of_below hb0))
 have hB := fun W (hW : Below w.heap.size w W) => r11Rounds_eq S T _ _ _ W (hx2.same (.of_below hW)) (hy2.same (.of_below hW))
 have hC := fun W (hW : Below w.heap.size w W) => r11Ties_eq S T _ _ _ W (hx3.same (.of_below hW)) (hy3.same (.of_below hW))
 rw [hW2] at hA
 have HA := Lib.hid hA;have HB := Lib.hid hB;have HC := Lib.hid hC;have G1 := Lib.hid g1;have G2 := Lib.hid g2;have HW2 := Lib.hid hW2;have Hb0 := Lib.hid hb0;have Hz2 := Lib.hid hz2
 clear hA hB hC g1 g2 hW2 hb0 hz2 hx1 hx2 hx3 hy1 hy2 hy3
 go_enter Tryz.func22,Tryz.ntmps22
 go_wp2_with (first
  | (go_at_call 24;refine HA.out.mono ?_;rintro e w1 ⟨rfl,hb1⟩;rw [← HW2.out] at hb1;have hq1 := Hb0.out.trans (hb1.mono (by rw [Hz2.out];omega));obtain ⟨r1,gc,-⟩ := qa6 hb1 (by rw [Hz2.out];omega) G1.out;obtain ⟨r2,gd,-⟩ := qa6 hb1 (by rw [Hz2.out];omega) G2.out;have gc1 := gc 1;have gd1 := gd 1;have hlt1 := hb1.size;rw [Hz2.out] at hlt1;have hlt2 : w.heap.size < w1.heap.size := (by omega);have hlt3 : w.heap.size + 1 < w1.heap.size := (by omega);have R1 := Lib.hid r1;have R2 := Lib.hid r2;clear gc gd hb1 r1 r2)
  | (go_at_call 76;refine (HB.out _ hq1).mono ?_;rintro e w2 ⟨rfl,hb2⟩;replace hq1 := hq1.trans (hb2.mono hq1.size);obtain ⟨-,gc,-⟩ := qa6 hb2 hlt2 R1.out;obtain ⟨-,gd,-⟩ := qa6 hb2 hlt3 R2.out;have gc2 := gc 2;have gd2 := gd 2;have hz2 := hb2.size;have hlt4 : w.heap.size < w2.heap.size := (by omega);have hlt5 : w.heap.size + 1 < w2.heap.size := (by omega);clear gc gd)
  | (go_at_call 58;refine (HC.out _ hq1).mono ?_;rintro e w3 ⟨rfl,hb3⟩;replace hq1 := hq1.trans (hb3.mono hq1.size)))
 go_ret
 exact ⟨rfl,hq1⟩
end
end Go.Proofs.YthcbkhfmdginiaaGreat
