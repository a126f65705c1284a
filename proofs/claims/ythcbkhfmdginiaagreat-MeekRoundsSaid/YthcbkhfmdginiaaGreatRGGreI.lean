/- Texts of one claim,put together: GreR,GreS,GreI. -/
import Derived.Test.YthcbkhfmdginiaaGreatRGGreA
import Derived.Test.YthcbkhfmdginiaaGreatRGRen

namespace Go.Proofs.YthcbkhfmdginiaaGreat
section
open Go Go.RowKit Go.Shelf Limb

structure RndA (k : GCn) (wd : World) (ve vrd vt vr vst : Value) (g : Nat) (w : World) (ve' vt' : Value) (rv : RV) (inn el ee : List Int) (rounds : List Rnd) (ties : List Tie) (vh vn vd v1 v2 : Value) : Prop where
 st : GSt k w ve' vrd vt' vr vst rv inn el ee rounds ties
 box : w.heap[g]? = some (.cells #[vh,.bool false,vn,vd,v1,v2] 58 (0,0))
 keep : Keep (some g :: k.M ve vrd vt vr vst) wd w
 m1 : Mv wd ve ve'
 m2 : Mv wd vt vt'
 gx : some g ∈ k.x
 gM : some g ∉ k.M ve vrd vt vr vst
 gl : g < wd.heap.size
 gC : k.gC ≤ g
section
variable {k : GCn} {wd w w1 : World} {ve vrd vt vr vst ve' vt' ve2 vt2 : Value} {g : Nat} {rv rv' : RV} {inn el ee inn' el' ee' : List Int} {rounds : List Rnd} {ties ties' : List Tie} {vh vn vd v1 v2 : Value}
theorem RndA.out (h : RndA k wd ve vrd vt vr vst g w ve' vt' rv inn el ee rounds ties vh vn vd v1 v2) : some g ∉ k.M ve' vrd vt' vr vst := fun hm => h.gM (GSt.mv h.m1 (Mv.refl _ _) h.m2 g h.gl hm)
theorem RndA.go (h : RndA k wd ve vrd vt vr vst g w ve' vt' rv inn el ee rounds ties vh vn vd v1 v2) {L : Blks} (hk : Keep L w w1) (hL : ∀ b,some b ∈ L → some b ∈ k.M ve' vrd vt' vr vst) (n1 : Mv w ve' ve2) (n2 : Mv w vt' vt2)
  (hs : GSt k w1 ve2 vrd vt2 vr vst rv' inn' el' ee' rounds ties') : RndA k wd ve vrd vt vr vst g w1 ve2 vt2 rv' inn' el' ee' rounds ties' vh vn vd v1 v2 := by
 have tr : ∀ {v v' v'' : Value},Mv wd v v' → Mv w v' v'' → Mv wd v v'' := fun a b => by
  rcases b with b | ⟨c,b,hc⟩
  ·rcases a with a | ⟨c, a, hc⟩
   ·exact .inl (b.trans a)
   ·exact .inr ⟨c,b.trans a,hc⟩
  ·exact .inr ⟨c,b,Nat.le_trans h.keep.size hc⟩
 refine ⟨hs,hk.box h.box (fun hm => h.out (hL _ hm)),h.keep.trans hk fun b hb hm => List.mem_cons_of_mem _ (GSt.mv h.m1 (Mv.refl _ _) h.m2 b hb (hL b hm)),tr h.m1 n1,tr h.m2 n2,h.gx,h.gM,h.gl,h.gC⟩
theorem RndA.below (h : RndA k wd ve vrd vt vr vst g w ve' vt' rv inn el ee rounds ties vh vn vd v1 v2) (hb : Below w.heap.size w w1) : RndA k wd ve vrd vt vr vst g w1 ve' vt' rv inn el ee rounds ties vh vn vd v1 v2 :=
 h.go (Keep.of_below (K := []) hb) (fun _ h => by cases h) (Mv.refl _ _) (Mv.refl _ _) (h.st.below hb)
theorem RndA.tell (h : RndA k wd ve vrd vt vr vst g w ve' vt' rv inn el ee rounds ties vh vn vd v1 v2) (hr : TellR (k.gc + 1) k.gC (k.R w ve' vrd vt' vr vst) ve' vrd vt' k.vl ties' w w1) : ∃ vt2,RndA k wd ve vrd vt vr vst g w1 ve' vt2 rv inn el ee rounds ties' vh vn vd v1 v2 := by
 obtain ⟨vt2,h1,h2,h3⟩ := h.st.tell hr
 refine ⟨vt2,h.go h2 (fun b hb => ?_) (Mv.refl _ _) h3 h1⟩
 simp only [List.mem_cons,List.not_mem_nil,or_false] at hb
 simp only [GCn.M,List.mem_cons,List.not_mem_nil,or_false]
 rcases hb with e | e
 ·exact .inl e
 ·exact .inr (.inr (.inr (.inr (.inl e))))
theorem RndA.elect (h : RndA k wd ve vrd vt vr vst g w ve' vt' rv inn el ee rounds ties vh vn vd v1 v2) (hs : GSt k w1 ve2 vrd vt' vr vst rv' inn' el' ee' rounds ties) (hk : Keep (k.M ve' vrd vt' vr vst) w w1) (hm : Mv w ve' ve2) : RndA k wd ve vrd vt vr vst g w1 ve2 vt' rv' inn' el' ee' rounds ties vh vn vd v1 v2 :=
 h.go hk (fun _ h => h) hm (Mv.refl _ _) hs
theorem RndA.pass (h : RndA k wd ve vrd vt vr vst g w ve' vt' rv inn el ee rounds ties vh vn vd v1 v2) (hO : Own (k.gc + 1) 93 3 (dGRow fun b => b < k.lo) w1 vr rv') (hk : Keep [vr.ownBlock] w w1) : RndA k wd ve vrd vt vr vst g w1 ve' vt' rv' inn el ee rounds ties vh vn vd v1 v2 :=
 h.go hk (fun b hb => by simp only [List.mem_singleton] at hb;simp [GCn.M,hb]) (Mv.refl _ _) (Mv.refl _ _) (h.st.passed hO hk)
theorem RndA.state (h : RndA k wd ve vrd vt vr vst g w ve' vt' rv inn el ee rounds ties vh vn vd v1 v2) {j gs : Nat} (hj : j < k.C) (hg : vst.ownBlock = some gs) (u : Value) (hu : u.oneCell' = true) (hL : stL k.C inn' el' = (stL k.C inn el).set j u) :
  RndA k wd ve vrd vt vr vst g (w.setCell ⟨gs,j,none⟩ u) ve' vt' rv inn' el' ee rounds ties vh vn vd v1 v2 := by
 obtain ⟨h1,h2⟩ := h.st.state hj hg u hu hL
 exact h.go h2 (fun b hb => by simp only [List.mem_singleton] at hb;simp [GCn.M,hb]) (Mv.refl _ _) (Mv.refl _ _) h1
theorem RndA.put (h : RndA k wd ve vrd vt vr vst g w ve' vt' rv inn el ee rounds ties vh vn vd v1 v2) (u : Value) : RndA k wd ve vrd vt vr vst g (w.setCell ⟨g,4,none⟩ u) ve' vt' rv inn el ee rounds ties vh vn vd u v2 ∧ RndA k wd ve vrd vt vr vst g (w.setCell ⟨g,5,none⟩ u) ve' vt' rv inn el ee rounds ties vh vn vd v1 u := by
 have hst := fun o => h.st.aside ((Keep.refl [some g] w).setIn g o u (.inl (by simp))) fun b hb => by
  rw [List.mem_singleton,Option.some.injEq] at hb
  subst hb
  exact ⟨h.gx,h.out,h.gC⟩
 have hk := fun o => h.keep.setIn g o u (.inl List.mem_cons_self)
 exact ⟨⟨hst 4,by rw [qa2 h.box];rfl,hk 4,h.m1,h.m2,h.gx,h.gM,h.gl,h.gC⟩,⟨hst 5,by rw [qa2 h.box];rfl,hk 5,h.m1,h.m2,h.gx,h.gM,h.gl,h.gC⟩⟩
theorem RndA.grow {X Y : Blks} (h : RndA { k with x := X } wd ve vrd vt vr vst g w ve' vt' rv inn el ee rounds ties vh vn vd v1 v2) {o : Option Nat} (hg : w.grownBy w1 o) (ho : ∀ b,o = some b → some b ∈ X ∧ some b ∉ k.M ve' vrd vt' vr vst ∧ wd.heap.size ≤ b) (hgY : some g ∈ Y) (hY : ∀ b,some b ∈ Y → b < w1.heap.size ∧ (some b ∈ X ∨ w.heap.size ≤ b)) : RndA { k with x := Y } wd ve vrd vt vr vst g w1 ve' vt' rv inn el ee rounds ties vh vn vd v1 v2 := by
 have hk : Keep [o] w w1 := Keep.of_grown hg
 have gl := h.gl
 have gC : k.gC ≤ g := h.gC
 refine ⟨h.st.asideY hk (fun b hb => ?_) hY,hk.box h.box (fun hm => ?_),h.keep.trans hk fun b hb hm => ?_,h.m1,h.m2,hgY,h.gM,h.gl,h.gC⟩
 ·obtain ⟨h1, h2, h3⟩ := ho b (List.mem_singleton.1 hb).symm
  exact ⟨h1,h2,by omega⟩
 ·obtain ⟨-, -, h3⟩ := ho g (List.mem_singleton.1 hm).symm
  omega
 ·obtain ⟨-, -, h3⟩ := ho b (List.mem_singleton.1 hm).symm
  omega
end
def Fr (k : GCn) (wd : World) (w : World) (ve vrd vt vr vst : Value) : Nat → Prop := fun b => wd.heap.size ≤ b ∧ b < w.heap.size ∧ some b ∉ k.M ve vrd vt vr vst
theorem RndA.one {k : GCn} {wd w : World} {ve vrd vt vr vst ve' vt' : Value} {g : Nat} {rv : RV} {inn el ee : List Int} {rounds : List Rnd} {ties : List Tie} {vh vn vd v1 v2 : Value} (h : RndA k wd ve vrd vt vr vst g w ve' vt' rv inn el ee rounds ties vh vn vd v1 v2) {x : Int} (hw : (Lit.int .i64 x).wf = true) (u : Value) (o : Nat) :
  RInts (Fr k wd ((w.setCell ⟨g,o,none⟩ u).alloc (.cells #[.int .i64 x] 3)) ve' vrd vt' vr vst) ((w.setCell ⟨g,o,none⟩ u).alloc (.cells #[.int .i64 x] 3)) (.slice (some ⟨w.heap.size,0,none⟩) 1 1) [x] := by
 have hz : (w.setCell ⟨g,o,none⟩ u).heap.size = w.heap.size := qai _ _ _
 have h1 : ((w.setCell ⟨g,o,none⟩ u).alloc (.cells #[.int .i64 x] 3)).heap[w.heap.size]? = some (.cells ([x].map (Value.int .i64)).toArray 3 (0,0)) := by rw [← hz];exact qa8 _ _
 have h2 : Arr .i64 ((w.setCell ⟨g,o,none⟩ u).alloc (.cells #[.int .i64 x] 3)) w.heap.size 3 [x] := h1
 refine h2.all ⟨h.keep.size,by simp [World.setCell],fun hm => ?_⟩ (fun y hy => by rw [List.mem_singleton.1 hy];exact hw) (by simp) rfl (Nat.le_refl _)
 have := (h.st.low _ hm).2
 omega
end

section
open Go Go.RowKit Go.Shelf Limb

theorem Own.rslo {α : Type} {base n : Nat} {e : TypeId} {dec : World → List Value → α → Prop} {w : World} {v : Value} {xs : List α} (h : Own base e n dec w v xs) (hl : xs.length ≤ 140737488355328) : RSl (fun b => v.ownBlock = some b) n dec w v xs := by
 rcases Nat.eq_zero_or_pos xs.length with h0 | h0
 ·have := Own.rsl h hl
  obtain ⟨a,cap,cells,h1,h2,h3,h4,-⟩ := this
  exact ⟨a,cap,cells,h1,h2,h3,h4,.inl (List.eq_nil_of_length_eq_zero h0)⟩
 ·obtain ⟨cells, ⟨h1, h2⟩, h3⟩ := h
  rcases h2 with ⟨-,h2⟩ | ⟨g,cap,cur,rfl,h4,h5,h6,h7,h8,h9⟩
  ·omega
  ·refine ⟨_, cap, cells, rfl, h6, hl, h3, .inr ⟨g, 0, rfl, rfl, fun j u hu => ?_⟩⟩
   have hj : j < xs.length * n := by
    rcases Nat.lt_or_ge j cells.length with h | h
    ·omega
    ·rw [List.getElem?_eq_none h] at hu;cases hu
   rw [← h9,List.getElem?_take_of_lt hj] at hu
   simp only [Array.getElem?_toList] at hu
   simp [World.cell?,h5,hu]
section
variable {k : GCn} {w : World} {ve vrd vt vr vst : Value} {rv : RV} {inn el ee : List Int} {rounds : List Rnd} {ties : List Tie}
theorem GSt.first (h : GSt k w ve vrd vt vr vst rv inn el ee rounds ties) {T : Nat → Prop} {v : Value} {am : List Int} (ha : RInts T w v am) (hne : am ≠ []) (hin : ∀ x ∈ am,0 ≤ x ∧ x < (k.C : Int)) (hs : am.Pairwise (fun a b => a ≤ b)) (hC : k.C ≤ 1000) (hl : LotOf k.lot k.C) (ht : ties.length ≤ 1000000) (hal : am.length ≤ 1000000) :
  Calls Tryz.prog 126 #[.pointer (some ⟨k.gC,0,none⟩),v] w fun e w' => e = .returned (.int .i64 (firstL k.lot am)) ∧ TellR (k.gc + 1) k.gC (k.R w ve vrd vt vr vst) ve vrd vt k.vl (ties ++ tieL am (firstL k.lot am)) w w' := by
 have hfm := qaw (lot := k.lot) (among := am) (by
  obtain ⟨x,hx⟩ := List.exists_mem_of_ne_nil _ hne
  exact ⟨x,(hl.all x).2 (hin x hx),hx⟩)
 have hfr := hin _ hfm.1
 have := choFirstT (k.gc + 1) (k.R w ve vrd vt vr vst) T _ v k.lot am ties w k.gC ve vrd vt k.vl h.bC (by have := h.l2;omega) h.ot (fun b hb => ⟨hb.1,hb.2.1,fun e => hb.2.2 (by simp [GCn.M,e])⟩) h.lot ha hne (fun x hx => (hl.all x).2 (hin x hx)) (WalkArith.wf_i64 (by omega)) h.big ht hal (by rw [hl.len];omega)
 rwa [sortI_self hs] at this
theorem GSt.last (h : GSt k w ve vrd vt vr vst rv inn el ee rounds ties) {T : Nat → Prop} {v : Value} {am : List Int} (ha : RInts T w v am) (hne : am ≠ []) (hin : ∀ x ∈ am,0 ≤ x ∧ x < (k.C : Int)) (hs : am.Pairwise (fun a b => a ≤ b)) (hC : k.C ≤ 1000) (hl : LotOf k.lot k.C) (ht : ties.length ≤ 1000000) (hal : am.length ≤ 1000000) :
  Calls Tryz.prog 129 #[.pointer (some ⟨k.gC,0,none⟩),v] w fun e w' => e = .returned (.int .i64 (firstL k.lot.reverse am)) ∧ TellR (k.gc + 1) k.gC (k.R w ve vrd vt vr vst) ve vrd vt k.vl (ties ++ tieL am (firstL k.lot.reverse am)) w w' := by
 have hl2 := qba hl
 have hfm := qaw (lot := k.lot.reverse) (among := am) (by
  obtain ⟨x,hx⟩ := List.exists_mem_of_ne_nil _ hne
  exact ⟨x,(hl2.all x).2 (hin x hx),hx⟩)
 have hfr := hin _ hfm.1
 have := choLastT (k.gc + 1) (k.R w ve vrd vt vr vst) T _ v k.lot am ties w k.gC ve vrd vt k.vl h.bC (by have := h.l2;omega) h.ot (fun b hb => ⟨hb.1,hb.2.1,fun e => hb.2.2 (by simp [GCn.M,e])⟩) h.lot ha hne (fun x hx => (hl.all x).2 (hin x hx)) (WalkArith.wf_i64 (by omega)) h.big ht hal (by rw [hl.len];omega)
 rwa [sortI_self hs] at this
end
end

section
open Go Go.RowKit Go.Shelf Limb

structure GOk (k : GCn) (rv : RV) (inn el : List Int) (rounds : List Rnd) (ties : List Tie) : Prop where
 c10 : k.C ≤ 10
 val : GVal k.C rv
 v9 : ∀ p ∈ rv,p.2 ≤ 1000000000
 q : 1 ≤ k.Q ∧ k.Q ≤ 1000000000000000
 vo : 0 ≤ k.votes ∧ k.votes ≤ 1000000
 rng : ∀ x ∈ inn,0 ≤ x ∧ x < (k.C : Int)
 asc : inn.Pairwise (fun a b => a < b)
 apart : ∀ x ∈ inn,x ∉ el
 lot : LotOf k.lot k.C
 elen : el.length ≤ 10
 rlen : rounds.length ≤ 10
 tlen : ties.length ≤ 10
theorem lit1 {W : World} {g : Nat} {e : TypeId} {x : Int} (h : W.heap[g]? = some (.cells #[.int .i64 x] e (0,0))) (hw : (Lit.int .i64 x).wf = true) : RInts Any W (.slice (some ⟨g,0,none⟩) 1 1) [x] :=
 qb5 (xs := [x]) h (by intro y hy;rw [List.mem_singleton.1 hy];exact hw) (by simp)
theorem bill1 {lo : Nat} {w : World} {v : Value} {n : Int} (h : OwnX lo 56 3 dRt w v [bill n]) : ∃ g p an mn cn ad md cd,v = .slice (some ⟨g,0,none⟩) 1 p ∧
  (∀ W,Below w.heap.size w W → W.cell? ⟨g,0,none⟩ = some (.bool false) ∧ W.cell? ⟨g,1,none⟩ = some (.slice an mn cn) ∧ W.cell? ⟨g,2,none⟩ = some (.slice ad md cd)) ∧
  RU (fun b => lo ≤ b ∧ b < w.heap.size) w (.slice an mn cn) (bill n).num ∧ RU (fun b => lo ≤ b ∧ b < w.heap.size) w (.slice ad md cd) (bill n).den := by
 obtain ⟨g,p,c,d,f,rfl,-,hg,-,h0,h1,h2,hd⟩ := Own.at3 h (k := 0) (by simp)
 obtain ⟨an,cn,ad,cd,rfl,rfl,rfl,r1,r2⟩ := hd.open
 exact ⟨g,p,_,_,_,_,_,_,rfl,fun W hW => ⟨(Same.of_below (S := Any) hW).cell trivial h0,(Same.of_below (S := Any) hW).cell trivial h1,(Same.of_below (S := Any) hW).cell trivial h2⟩,r1.mono fun b hb => ⟨hb.1,hb.2.1⟩,r2.mono fun b hb => ⟨hb.1,hb.2.1⟩⟩
def Nb (W0 : World) (g : Nat) (wc : World) : Nat → Prop := fun b => W0.heap.size ≤ b ∧ b < wc.heap.size ∧ b ≠ g
def RndX (W0 : World) (inn had : List Int) (lost : Int) (s5 s6 : Value) (wc : World) : Prop := ∃ g a n c vh vn vd,s5 = .slice a n c ∧ s6 = .pointer (some ⟨g,0,none⟩) ∧ W0.heap.size ≤ g ∧
 wc.heap[g]? = some (.cells #[vh,.bool false,vn,vd,.slice none 0 0,.slice none 0 0] 58 (0,0)) ∧ RInts (Nb W0 g wc) wc (.slice a n c) inn ∧ RRts (Nb W0 g wc) wc vh (had.map bill) ∧
 RU (Nb W0 g wc) wc vn (bill lost).num ∧ RU (Nb W0 g wc) wc vd (bill lost).den ∧ Below W0.heap.size W0 wc
theorem RndX.mk {W0 X W1 W3 W6 : World} {lo1 lo3 lo6 g : Nat} {inn had : List Int} {lost : Int} {a1 : Option Addr} {n1 c1 : Nat} {vh vn vd : Value} (y : W0.heap.size ≤ g)
  (hG : X.heap[g]? = some (.cells #[.slice none 0 0,.bool false,.slice none 0 0,.slice none 0 0,.slice none 0 0,.slice none 0 0] 58 (0,0))) (hQ : Below W0.heap.size W0 X)
  (o1 : Own lo1 3 1 (dInt .i64) W1 (.slice a1 n1 c1) inn) (e1 : Below W1.heap.size W1 X) (y1 : W0.heap.size ≤ lo1) (z1 : g < lo1 ∨ W1.heap.size ≤ g) (l1 : inn.length ≤ 1000000)
  (o3 : OwnX lo3 56 3 dRt W3 vh (had.map bill)) (e3 : Below W3.heap.size W3 X) (y3 : W0.heap.size ≤ lo3) (z3 : g < lo3 ∨ W3.heap.size ≤ g) (l3 : (had.map bill).length ≤ 1000000)
  (r1 : RU (fun b => lo6 ≤ b ∧ b < W6.heap.size) W6 vn (bill lost).num) (r2 : RU (fun b => lo6 ≤ b ∧ b < W6.heap.size) W6 vd (bill lost).den) (e6 : Below W6.heap.size W6 X) (y6 : W0.heap.size ≤ lo6) (z6 : g < lo6 ∨ W6.heap.size ≤ g) :
  RndX W0 inn had lost (.slice a1 n1 c1) (.pointer (some ⟨g,0,none⟩)) ((((((X.setCell ⟨g,0,none⟩ vh).setCell ⟨g,1,none⟩ (.bool false)).setCell ⟨g,2,none⟩ vn).setCell ⟨g,3,none⟩ vd).setCell ⟨g,4,none⟩ (.slice none 0 0)).setCell ⟨g,5,none⟩ (.slice none 0 0)) := by
 obtain ⟨wc,hwc⟩ : ∃ W,W = (((((X.setCell ⟨g,0,none⟩ vh).setCell ⟨g,1,none⟩ (.bool false)).setCell ⟨g,2,none⟩ vn).setCell ⟨g,3,none⟩ vd).setCell ⟨g,4,none⟩ (.slice none 0 0)).setCell ⟨g,5,none⟩ (.slice none 0 0) := ⟨_,rfl⟩
 have hg : wc.heap[g]? = some (.cells #[vh,.bool false,vn,vd,.slice none 0 0,.slice none 0 0] 58 (0,0)) := by
  rw [hwc,qa2 (qa2 (qa2 (qa2 (qa2 (qa2 hG _) _) _) _) _) _];rfl
 have hsm : Same (fun b => b ≠ g) X wc := by
  rw [hwc]
  exact ((((((Same.refl _ X).setCell (fun h => h rfl) _).setCell (fun h => h rfl) _).setCell (fun h => h rfl) _).setCell (fun h => h rfl) _).setCell (fun h => h rfl) _).setCell (fun h => h rfl) _
 have hbl : Below W0.heap.size W0 wc := by
  rw [hwc]
  exact (((((hQ.setCell (p := ⟨g,0,none⟩) y _).setCell (p := ⟨g,1,none⟩) y _).setCell (p := ⟨g,2,none⟩) y _).setCell (p := ⟨g,3,none⟩) y _).setCell (p := ⟨g,4,none⟩) y _).setCell (p := ⟨g,5,none⟩) y _
 have hsz : wc.heap.size = X.heap.size := by rw [hwc];simp [World.setCell]
 rw [← hwc]
 have up : ∀ {lo : Nat} {W : World},W0.heap.size ≤ lo → Below W.heap.size W X → (g < lo ∨ W.heap.size ≤ g) → ∀ b,lo ≤ b ∧ b < W.heap.size → Nb W0 g wc b := fun hy he hz b hb => ⟨by omega,by rw [hsz];have := he.size;omega,by omega⟩
 have sm : ∀ b,Nb W0 g wc b → b ≠ g := fun b hb => hb.2.2
 have k1 : RInts (Nb W0 g wc) W1 (.slice a1 n1 c1) inn := RSl.mono (fun _ _ _ h => h) (fun b hb => up y1 e1 z1 b hb) (RSl.cut (by omega) (fun _ _ h => h) (Own.rsl o1 (by omega)))
 have k3 : RRts (Nb W0 g wc) W3 vh (had.map bill) := RSl.mono (fun _ _ _ hd => dRt.mono (up y3 e3 z3) hd) (fun b hb => up y3 e3 z3 b hb) (OwnX.rsl famRt (by omega) o3 (by omega))
 have sx : Same (Nb W0 g wc) X wc := fun b hb hs => hsm b hb (sm b hs)
 exact ⟨g,a1,n1,c1,vh,vn,vd,rfl,rfl,y,hg,(k1.same (.of_below e1)).same sx,(k3.same (.of_below e3)).same sx,((r1.mono (up y6 e6 z6)).same (.of_below e6)).same sx,((r2.mono (up y6 e6 z6)).same (.of_below e6)).same sx,hbl⟩
end
end Go.Proofs.YthcbkhfmdginiaaGreat
