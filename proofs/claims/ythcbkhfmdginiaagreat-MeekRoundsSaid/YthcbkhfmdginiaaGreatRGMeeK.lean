/- Texts of one claim,put together: MeeK,MeeL,MeeK2,MeeW. -/
import Derived.Test.YthcbkhfmdginiaaGreatRGMeeI
import Derived.Test.YthcbkhfmdginiaaGreatRGGreA
import Derived.Test.YthcbkhfmdginiaaGreatRGGreI
import Derived.StillTailTactics

namespace Go.Proofs.YthcbkhfmdginiaaGreat
section
open Go Go.RowKit Go.Shelf Limb

structure MOk (k : MCn) (C : Nat) (s : MP) : Prop where
 c10 : C ≤ 10
 lot : LotOf k.lot C
 rng : ∀ x ∈ s.inn,0 ≤ x ∧ x < (C : Int)
 asc : s.inn.Pairwise (fun a b => a < b)
 els : ∀ x ∈ s.el,0 ≤ x ∧ x < (C : Int)
 elnd : s.el.Nodup
 relen : s.re.length ≤ 10
 tlen : s.ties.length ≤ 10
 hlen : s.had.length = C
 hb : ∀ x ∈ s.had,0 ≤ x ∧ x ≤ 1000000000000000
 qb : 1 ≤ s.quota ∧ s.quota ≤ 1000000000000001
 K : KInv C s.K
section
variable {k : MCn} {C : Nat} {s : MP}
theorem MOk.inn10 (h : MOk k C s) : s.inn.length ≤ 10 := by have := nodup_len (qaz h.asc) h.rng;have := h.c10;omega
theorem MOk.el10 (h : MOk k C s) : s.el.length ≤ 10 := by have := nodup_len h.elnd h.els;have := h.c10;omega
theorem MOk.hv (h : MOk k C s) (x : Int) : 0 ≤ gI s.had x ∧ gI s.had x ≤ 1000000000000000 := gI_bound (by omega) h.hb x
theorem MOk.lots (h : MOk k C s) : k.lot.length ≤ 1000000 := by rw [h.lot.len];have := h.c10;omega
end
def lenS : Value → Nat
 | .slice _ n _ => n
 | _ => 0
def MP.filled (s : MP) (f : St) : MP := { s with inn := f.left,el := s.el ++ f.elected,re := s.re ++ f.elected,ties := s.ties ++ f.ties }
def MP.drop (s : MP) (am : List Int) (x : Int) : MP := { s with inn := s.inn.filter fun y => !(y == x),K := s.K.set x.toNat 0,ro := [x],ties := s.ties ++ tieL am x }
theorem filled_succ {s : MP} {lot : List Int} {i : Nat} : (s.filled (fillS s.had lot s.inn i)).elect (bestL (gI s.had) (fillS s.had lot s.inn i).left) (firstL lot (bestL (gI s.had) (fillS s.had lot s.inn i).left)) = s.filled (fillS s.had lot s.inn (i + 1)) := by
 simp only [MP.elect,MP.filled,fillS,List.append_assoc]
theorem slContainsF (S : Nat → Prop) (v : Value) (l : List Int) (w : World) (h : RInts S w v l) (hl : l.length ≤ 1000000) (g : Nat) (lb : Array Value) (eg : ∀ args w,(callFunc g args).run Tryz.prog w = .ok (.enter g args) w) (p : Int → Bool)
  (hp : ∀ W x,Below w.heap.size w W → x ∈ l → Calls Tryz.prog g (#[.int .i64 x] ++ lb) W fun e w' => e = .returned (.bool (p x)) ∧ Below W.heap.size W w') :
  Calls Tryz.prog 92 #[v,.func (.func g) #[] lb] w fun e w' => e = .returned (.bool (l.any p)) ∧ Below w.heap.size w w' := by
 have hI := slIndexF S v l w h hl g lb eg p hp
 obtain ⟨a,cap,rfl,-,-⟩ := RSl.shape h
 obtain ⟨n,hn⟩ : ∃ n,l.length = n := ⟨_,rfl⟩
 rw [hn] at hI ⊢
 have hI2 : Calls Tryz.prog 160 #[.slice a n cap,.func (.func g) #[] lb] w fun e w' => ∃ r : Int,e = .returned (.int .i64 r) ∧ (decide (r ≥ 0) = l.any p ∧ (r ≥ 0 ↔ l.any p = true)) ∧ Below w.heap.size w w' := hI.mono fun e w' ⟨r,h1,h2,h3⟩ => by
  have key : r ≥ 0 ↔ l.any p = true := by
   rcases h2 with ⟨h4,rfl⟩ | ⟨j,hj,rfl,h4⟩
   ·rw [List.find?_eq_none] at h4
    constructor
    ·intro h;omega
    ·intro h
     obtain ⟨x,hx,hpx⟩ := List.any_eq_true.1 h
     exact absurd hpx (h4 x hx)
   ·have := List.find?_some h4
    exact ⟨fun _ => List.any_eq_true.2 ⟨_,List.getElem_mem hj,this⟩,fun _ => by omega⟩
  refine ⟨r,h1,⟨?_,key⟩,h3⟩
  cases hb : l.any p
  ·exact decide_eq_false fun h => by rw [key.1 h] at hb;cases hb
  ·exact decide_eq_true (key.2 hb)
 obtain ⟨bb,hbb⟩ : ∃ b,l.any p = b := ⟨_,rfl⟩
 rw [hbb] at hI2 ⊢
 have HI := Lib.hid hI2
 clear hI hI2 h hn hp hbb hl
 go_enter Tryz.func92,Tryz.ntmps92
 cases bb with
 | true =>
  go_wp2_with (go_at_call 160;refine HI.out.mono ?_;rintro e w1 ⟨r,rfl,⟨hd,hr⟩,hb1⟩;have hr2 := hr.2 rfl;clear hr)
  go_ret
  exact ⟨rfl,hb1⟩
 | false =>
  go_wp2_with (go_at_call 160;refine HI.out.mono ?_;rintro e w1 ⟨r,rfl,⟨hd,hr⟩,hb1⟩;have hr2 : ¬ r ≥ 0 := (fun h => Bool.noConfusion (hr.1 h));clear hr)
  go_ret
  exact ⟨rfl,hb1⟩
set_option maxRecDepth 100000 in
set_option maxHeartbeats 2000000 in
theorem meeFills_no (k : MCn) (v : MV) (s : MP) (C sn : Nat) (w : World) (h : MSt k w v s) (hse : k.seats = (sn : Int)) (hs10 : sn ≤ 10) (hok : MOk k C s) (hno : ¬ s.inn.length + s.el.length ≤ sn) :
  Calls Tryz.prog 83 #[.pointer (some ⟨k.gc,0,none⟩)] w fun e w' => e = .returned (.bool false) ∧ Below w.heap.size w w' := by
 have c0 : w.cell? ⟨k.gc,0,none⟩ = some (.pointer (some ⟨k.gC,0,none⟩)) := h.cell.1 0
 have c4 : w.cell? ⟨k.gc,4,none⟩ = some (.int .i64 k.seats) := h.cell.1 4
 have c7 : w.cell? ⟨k.gc,7,none⟩ = some v.vL := h.cell.1 7
 have cC : w.cell? ⟨k.gC,0,none⟩ = some v.ve := h.cellC.1 0
 have hlg := qa0 h.bc
 have hlC := qa0 h.bC
 obtain ⟨aL,cL,hvL⟩ := Own.shape h.oL
 obtain ⟨ae,ce,hve⟩ := Own.shape h.oe
 have h10 := hok.inn10
 have e10 := hok.el10
 obtain ⟨n,hn⟩ : ∃ n,s.inn.length = n := ⟨_,rfl⟩
 obtain ⟨m,hm⟩ : ∃ n,s.el.length = n := ⟨_,rfl⟩
 rw [hn] at hvL hno h10
 rw [hm] at hve hno e10
 rw [hvL] at c7
 rw [hve] at cC
 rw [hse] at c4
 have hw1 : IntKind.i64.wrap ((sn : Int) - (m : Int)) = (sn : Int) - m := by rw [IntKind.wrap_i64];omega
 have hgt : (n : Int) > (sn : Int) - m := by omega
 have hgt2 : (sn : Int) - m < (n : Int) := by omega
 have hd : decide ((n : Int) > (sn : Int) - m) = true := decide_eq_true hgt
 clear h hok hn hm hvL hve hse
 go_enter Tryz.func83,Tryz.ntmps83
 go_wp2
 go_still (by kernel_rfl)
 go_wp2
 go_ret
 exact ⟨rfl,Below.drew (Below.refl _ _)⟩
set_option maxRecDepth 100000 in
set_option maxHeartbeats 4000000 in
theorem meeFills_ok (k : MCn) (v : MV) (s : MP) (C sn : Nat) (w : World) (h : MSt k w v s) (hse : k.seats = (sn : Int)) (hs10 : sn ≤ 10) (hok : MOk k C s) (hyes : s.inn.length + s.el.length ≤ sn) :
  Calls Tryz.prog 83 #[.pointer (some ⟨k.gc,0,none⟩)] w fun e w' => e = .returned (.bool true) ∧ (∃ v',MSt k w' v' (s.filled (fillS s.had k.lot s.inn s.inn.length))) ∧ Below k.lo w w' := by
 have c0 : w.cell? ⟨k.gc,0,none⟩ = some (.pointer (some ⟨k.gC,0,none⟩)) := h.cell.1 0
 have c4 : w.cell? ⟨k.gc,4,none⟩ = some (.int .i64 k.seats) := h.cell.1 4
 have c7 : w.cell? ⟨k.gc,7,none⟩ = some v.vL := h.cell.1 7
 have cC : w.cell? ⟨k.gC,0,none⟩ = some v.ve := h.cellC.1 0
 have hlg := qa0 h.bc
 have hlC := qa0 h.bC
 obtain ⟨aL,cL,hvL⟩ := Own.shape h.oL
 obtain ⟨ae,ce,hve⟩ := Own.shape h.oe
 have h10 := hok.inn10
 have e10 := hok.el10
 obtain ⟨FF,hFF⟩ : ∃ F : Nat → St,F = fun i => fillS s.had k.lot s.inn i := ⟨_,rfl⟩
 have hfa : ∀ i,i ≤ s.inn.length → (FF i).left = s.inn.filter (fun y => !(FF i).elected.contains y) ∧ (FF i).elected.Nodup ∧ (∀ x ∈ (FF i).elected,x ∈ s.inn) ∧ (FF i).elected.length = i ∧ (FF i).left.length + i = s.inn.length ∧ (FF i).ties.length ≤ i := fun i hi => by
  rw [hFF];exact qb3 hok.lot hok.rng (qaz hok.asc) i hi
 have hf0 : s.filled (FF 0) = s := by rw [hFF];simp [MP.filled,fillS]
 have hfs : ∀ i,(s.filled (FF i)).elect (bestL (gI s.had) (FF i).left) (firstL k.lot (bestL (gI s.had) (FF i).left)) = s.filled (FF (i + 1)) := fun i => by rw [hFF];exact filled_succ
 have hft : fillS s.had k.lot s.inn s.inn.length = FF s.inn.length := by rw [hFF]
 rw [hft]
 obtain ⟨n,hn⟩ : ∃ n,s.inn.length = n := ⟨_,rfl⟩
 obtain ⟨m,hm⟩ : ∃ n,s.el.length = n := ⟨_,rfl⟩
 rw [hn] at hvL hyes h10 hfa ⊢
 rw [hm] at hve hyes e10
 rw [hvL] at c7
 rw [hve] at cC
 rw [hse] at c4
 have hw1 : IntKind.i64.wrap ((sn : Int) - (m : Int)) = (sn : Int) - m := by rw [IntKind.wrap_i64];omega
 have hgt : ¬ (n : Int) > (sn : Int) - m := by omega
 have hgt2 : ¬ (sn : Int) - m < (n : Int) := by omega
 have hd : decide ((n : Int) > (sn : Int) - m) = false := decide_eq_false hgt
 have hMd : MSt k w.drew v (s.filled (FF 0)) := by rw [hf0];exact h.below (Below.drew (Below.refl _ w))
 have hbd : Below k.lo w w.drew := (Below.drew (Below.refl _ w)).mono (by have := h.big;have := h.l1;have := h.l2;omega)
 have Hfa := Lib.hid hfa;have Hfs := Lib.hid hfs;have HMd := Lib.hid hMd;have Hbd := Lib.hid hbd;have Hok := Lib.hid hok;have Hn := Lib.hid hn;have Hm := Lib.hid hm;have HH := Lib.hid h
 clear h hok hn hm hvL hve hse hfa hf0 hfs hft hMd hbd hFF
 go_enter Tryz.func83,Tryz.ntmps83
 go_wp2
 go_still (by kernel_rfl)
 obtain ⟨we,hwe⟩ : ∃ W : World,W = { heap := w.heap,tape := w.tape,drawn := w.drawn + 1,os := w.os,output := w.output } := ⟨_,rfl⟩
 rw [← hwe]
 have Me : Hid (MSt k we v (s.filled (FF 0))) := Lib.hid (by rw [hwe];exact HMd.out)
 have Be : Hid (Below k.lo w we) := Lib.hid (by rw [hwe];exact Hbd.out)
 have eg : ∀ args w,(callFunc 152 args).run Tryz.prog w = .ok (.enter 152 args) w := enters_of Tryz.func152 (by kernel_rfl) rfl
 have Heg := Lib.hid eg
 clear hwe HMd Hbd c0 c4 c7 cC hlg hlC eg hw1
 go_wp2
 go_loopw [] (fun wr => ∃ (i : Nat) (v' : MV),i ≤ n ∧ Hid (MSt k wr v' (s.filled (FF i))) ∧ Hid (Below k.lo w wr)) (fun wr => lenS ((wr.cell? ⟨k.gc,7,none⟩).getD (.slice none 0 0)))
 case atStart => exact ⟨0,_,Nat.zero_le _,Me,Be⟩
 case round =>
  obtain ⟨i,v',hi,hM,hb⟩ := hrel
  obtain ⟨t1,t2,t3,t4,t5,t6⟩ := Hfa.out i hi
  have c7 : wr.cell? ⟨k.gc,7,none⟩ = some v'.vL := hM.out.cell.1 7
  have hlg := qa0 hM.out.bc
  obtain ⟨aL',cL',hvL⟩ : ∃ a c,v'.vL = .slice a (FF i).left.length c := Own.shape hM.out.oL
  obtain ⟨L,hL⟩ : ∃ L,(FF i).left.length = L := ⟨_,rfl⟩
  rw [hvL,hL] at c7
  have hcm : ∀ u,wr.cell? ⟨k.gc,7,none⟩ = some u → lenS ((wr.cell? ⟨k.gc,7,none⟩).getD (.slice none 0 0)) = lenS u := fun u hu => by rw [hu];rfl
  have Hcm : Hid (lenS ((wr.cell? ⟨k.gc,7,none⟩).getD (.slice none 0 0)) = L) := Lib.hid (hcm _ c7)
  clear hcm
  by_cases hlt : i < n
  ·have hsub : ∀ y ∈ (FF i).left, y ∈ s.inn := fun y hy => by rw [t1] at hy; exact (List.mem_filter.1 hy).1
   have hlne : (FF i).left ≠ [] := fun e => by rw [e] at t5;simp at t5;omega
   have hams : (bestL (gI s.had) (FF i).left).Pairwise (fun a b => a ≤ b) := by
    rw [t1]
    exact List.Pairwise.filter _ (List.Pairwise.filter _ (Hok.out.asc.imp fun h => by omega))
   have hamr : ∀ y ∈ bestL (gI s.had) (FF i).left,0 ≤ y ∧ y < (C : Int) := fun y hy => Hok.out.rng y (hsub y (qak.1 hy).1)
   have haml : (bestL (gI s.had) (FF i).left).length ≤ 1000000 := Nat.le_trans (List.length_filter_le _ _) (by omega)
   have hamn : bestL (gI s.had) (FF i).left ≠ [] := bestL_ne hlne
   obtain ⟨y0,hy0⟩ := List.exists_mem_of_ne_nil _ hamn
   have hfm := qaw (lot := k.lot) (among := bestL (gI s.had) (FF i).left) ⟨y0,(Hok.out.lot.all _).2 (hamr _ hy0),hy0⟩
   have hxr := hamr _ hfm.1
   have hxl := (qak.1 hfm.1).1
   obtain ⟨x,hx⟩ : ∃ x : Nat,firstL k.lot (bestL (gI s.had) (FF i).left) = (x : Int) := ⟨(firstL k.lot (bestL (gI s.had) (FF i).left)).toNat,by omega⟩
   have hst := Hfs.out i
   obtain ⟨-,-,-,-,t5',-⟩ := Hfa.out (i + 1) hlt
   rw [hx] at hst hxl hxr
   have hBe := choBestM Any v'.vL (FF i).left wr (RSl.mono (fun _ _ _ h => h) (fun _ _ => trivial) (Own.rsl hM.out.oL (by show (FF i).left.length ≤ _;omega))) (by omega) 152 (.pointer (some ⟨k.gc,0,none⟩)) Heg.out (gI s.had)
    (fun W y hW hy => (meeHas k v' _ y W (hM.out.below hW) (Hok.out.rng y (hsub y hy)).1 (by show y < s.had.length;rw [Hok.out.hlen];exact (Hok.out.rng y (hsub y hy)).2)).mono fun e w' ⟨h1,h2⟩ => ⟨h1,h2 ▸ Below.refl _ _⟩)
   rw [hvL,hL] at hBe
   have hre := Hok.out.relen
   have hti := Hok.out.tlen
   have hEl := fun W u (hW : Below wr.heap.size wr W) (hu : Own wr.heap.size 3 1 (dInt .i64) W u (bestL (gI s.had) (FF i).left)) =>
    meeElect k v' (s.filled (FF i)) u (bestL (gI s.had) (FF i).left) (From wr.heap.size) x W (hM.out.below hW) (Own.rsl hu (by omega)) hamn (fun y hy => (Hok.out.lot.all _).2 (hamr y hy)) hams hx hxl (by have := Hok.out.c10;omega) Hok.out.lots haml
     (by show (FF i).left.length ≤ _;omega) (by show (s.el ++ (FF i).elected).length ≤ _;rw [List.length_append,Hm.out];omega) (by show (s.re ++ (FF i).elected).length ≤ _;rw [List.length_append];omega) (by show (s.ties ++ (FF i).ties).length ≤ _;rw [List.length_append];omega)
   rw [hst] at hEl
   have hlow : k.lo ≤ wr.heap.size := by have := hM.out.big;have := hM.out.l1;have := hM.out.l2;omega
   have HBe := Lib.hid hBe;have HEl := Lib.hid hEl
   have hLp : 0 < L := by omega
   have hLi : (L : Int) > 0 := by omega
   have hLi2 : (0 : Int) < (L : Int) := by omega
   have hL2 : (FF (i + 1)).left.length < L := by omega
   clear hBe hEl hst hx hxl hxr hfm hy0 hamn haml hamr hams hlne hsub t1 t2 t3 t4 t5 t5' t6 hL hvL
   go_wp2_with (first
    | (go_at_call 125;refine HBe.out.mono ?_;rintro e w1 ⟨v1,rfl,o1,b1⟩;obtain ⟨a1,n1,c1,rfl⟩ := Own.slice o1;have O1 := Lib.hid o1;have B1 := Lib.hid b1;clear o1 b1)
    | (go_at_call 151;refine (HEl.out _ _ B1.out O1.out).mono ?_;rintro e w2 ⟨rfl,⟨v2,m2⟩,b2⟩;have M2 := Lib.hid m2;have B2 := Lib.hid b2;clear m2 b2))
   have hb2 : Below k.lo w w2 := (hb.out.trans (B1.out.mono hlow)).trans B2.out
   refine ⟨⟨i + 1,v2,by omega,M2,Lib.hid hb2⟩,?_⟩
   obtain ⟨a3,c3,hv3⟩ : ∃ a c,v2.vL = .slice a (FF (i + 1)).left.length c := Own.shape M2.out.oL
   have h7 : w2.cell? ⟨k.gc,7,none⟩ = some v2.vL := M2.out.cell.1 7
   have h8 := Hcm.out
   rw [h8,h7,hv3]
   exact hL2
  ·obtain rfl : i = n := by omega
   have hL0 : L = 0 := by omega
   have hL00 : ¬ (L : Int) > 0 := by omega
   subst hL0
   clear t1 t2 t3 t4 t5 t6 hL hvL hL00
   go_wp2
   go_ret
   exact ⟨rfl,⟨_,hM.out⟩,hb.out⟩
theorem best_reach {f : Int → Int} {l : List Int} {q x0 : Int} (hx : x0 ∈ bestL f l) : (l.any fun x => decide (q ≤ f x)) = decide (q ≤ f x0) := by
 obtain ⟨h1,h2⟩ := qak.1 hx
 rw [Bool.eq_iff_iff,List.any_eq_true,decide_eq_true_eq]
 constructor
 ·rintro ⟨y, hy, hq⟩
  have := h2 y hy
  have := of_decide_eq_true hq
  omega
 ·intro h
  exact ⟨x0,h1,decide_eq_true h⟩
set_option maxRecDepth 100000 in
set_option maxHeartbeats 4000000 in
theorem meeReaches (k : MCn) (v : MV) (s : MP) (C : Nat) (w : World) (h : MSt k w v s) (hok : MOk k C s) (hne : s.inn ≠ []) (rb : Bool) (hrb : (s.inn.any fun x => decide (s.quota ≤ gI s.had x)) = rb) :
  Calls Tryz.prog 84 #[.pointer (some ⟨k.gc,0,none⟩)] w fun e w' => e = .returned (.bool rb) ∧ (∃ v',MSt k w' v' (if rb = true then s.elect (bestL (gI s.had) s.inn) (firstL k.lot (bestL (gI s.had) s.inn)) else s)) ∧ Below k.lo w w' := by
 have c7 : w.cell? ⟨k.gc,7,none⟩ = some v.vL := h.cell.1 7
 have hlg := qa0 h.bc
 obtain ⟨aL,cL,hvL⟩ := Own.shape h.oL
 have h10 := hok.inn10
 have e10 := hok.el10
 have eg : ∀ args w,(callFunc 152 args).run Tryz.prog w = .ok (.enter 152 args) w := enters_of Tryz.func152 (by kernel_rfl) rfl
 have hBe := choBestM Any v.vL s.inn w (RSl.mono (fun _ _ _ h => h) (fun _ _ => trivial) (Own.rsl h.oL (by omega))) (by omega) 152 (.pointer (some ⟨k.gc,0,none⟩)) eg (gI s.had)
  (fun W y hW hy => (meeHas k v _ y W (h.below hW) (hok.rng y hy).1 (by rw [hok.hlen];exact (hok.rng y hy).2)).mono fun e w' ⟨h1,h2⟩ => ⟨h1,h2 ▸ Below.refl _ _⟩)
 have hamn : bestL (gI s.had) s.inn ≠ [] := bestL_ne hne
 have hams : (bestL (gI s.had) s.inn).Pairwise (fun a b => a ≤ b) := List.Pairwise.filter _ (hok.asc.imp fun h => by omega)
 have hamr : ∀ y ∈ bestL (gI s.had) s.inn,0 ≤ y ∧ y < (C : Int) := fun y hy => hok.rng y (qak.1 hy).1
 have haml : (bestL (gI s.had) s.inn).length ≤ 1000000 := Nat.le_trans (List.length_filter_le _ _) (by omega)
 obtain ⟨x0,tl,hx0⟩ : ∃ x0 tl,bestL (gI s.had) s.inn = x0 :: tl := by
  rcases h : bestL (gI s.had) s.inn with _ | ⟨x0,tl⟩
  ·exact absurd h hamn
  ·exact ⟨x0,tl,rfl⟩
 have hm0 : x0 ∈ bestL (gI s.had) s.inn := by rw [hx0];exact List.mem_cons_self
 have hr0 := hamr _ hm0
 have hrb2 := hrb
 rw [best_reach hm0] at hrb2
 have hfm := qaw (lot := k.lot) (among := bestL (gI s.had) s.inn) ⟨x0,(hok.lot.all _).2 hr0,hm0⟩
 obtain ⟨x,hx⟩ : ∃ x : Nat,firstL k.lot (bestL (gI s.had) s.inn) = (x : Int) := ⟨(firstL k.lot (bestL (gI s.had) s.inn)).toNat,by have := hamr _ hfm.1;omega⟩
 have hEl := fun W u (hW : Below w.heap.size w W) (hu : Own w.heap.size 3 1 (dInt .i64) W u (bestL (gI s.had) s.inn)) =>
  meeElect k v s u (bestL (gI s.had) s.inn) (From w.heap.size) x W (h.below hW) (Own.rsl hu (by omega)) hamn (fun y hy => (hok.lot.all _).2 (hamr y hy)) hams hx (by rw [← hx];exact (qak.1 hfm.1).1) (by have := hamr _ hfm.1;have := hok.c10;omega) hok.lots haml
   (by omega) (by omega) (by have := hok.relen;omega) (by have := hok.tlen;omega)
 rw [hx]
 have hlow : k.lo ≤ w.heap.size := by have := h.big;have := h.l1;have := h.l2;omega
 obtain ⟨xn,rfl⟩ : ∃ xn : Nat,x0 = (xn : Int) := ⟨x0.toNat,by omega⟩
 have hcell : ∀ W u,Below w.heap.size w W → Own w.heap.size 3 1 (dInt .i64) W u (bestL (gI s.had) s.inn) → ∃ g7 n7 c7 gh nh ch,u = .slice (some ⟨g7,0,none⟩) n7 c7 ∧ 0 < n7 ∧ W.cell? ⟨g7,0,none⟩ = some (.int .i64 (xn : Int)) ∧ g7 < W.heap.size ∧ W.cell? ⟨k.gc,9,none⟩ = some (.slice (some ⟨gh,0,none⟩) nh ch) ∧ xn < nh ∧ W.cell? ⟨gh,xn,none⟩ = some (.int .i64 (gI s.had xn)) ∧ gh < W.heap.size ∧ W.cell? ⟨k.gc,11,none⟩ = some (.int .i64 s.quota) ∧ k.gc < W.heap.size := fun W u hW hu => by
  obtain ⟨g7,cp7,c70,hv7,-,hl7,-,h70,hd7⟩ := Own.at1 hu (k := 0) (by rw [hx0];simp)
  have hM := h.below hW
  obtain ⟨gh,cph,ch0,hvh,-,hlh,-,hch,hdh⟩ := Own.at1 hM.oh (k := xn) (by rw [hok.hlen];omega)
  obtain ⟨rfl,-⟩ := hd7.open
  obtain ⟨rfl,-⟩ := hdh.open
  refine ⟨g7,_,cp7,gh,s.had.length,cph,hv7,by rw [hx0];simp,?_,hl7,?_,by rw [hok.hlen];omega,?_,hlh,hM.cell.1 11,qa0 hM.bc⟩
  ·rw [h70];simp [hx0]
  ·rw [← hvh];exact hM.cell.1 9
  ·rw [hch,gI_at (by rw [hok.hlen];omega)]
 obtain ⟨hv0,hhv0⟩ : ∃ y,gI s.had (xn : Int) = y := ⟨_,rfl⟩
 rw [hhv0] at hcell hrb2
 obtain ⟨n,hn⟩ : ∃ n,s.inn.length = n := ⟨_,rfl⟩
 rw [hn] at hvL
 rw [hvL] at c7 hBe
 have HM : Hid (∀ W,Below w.heap.size w W → MSt k W v s) := Lib.hid fun W hW => h.below hW
 obtain ⟨q,hq⟩ : ∃ q,s.quota = q := ⟨_,rfl⟩
 rw [hq] at hcell hrb2
 have HBe := Lib.hid hBe;have HEl := Lib.hid hEl;have Hcell := Lib.hid hcell
 clear hBe hEl hcell hhv0 hn hvL h hok hne hrb hamn hams hamr haml hx0 hm0 hr0 hfm hx eg h10 e10 hq
 go_enter Tryz.func84,Tryz.ntmps84
 go_upto_region 2 with (go_at_call 125;refine HBe.out.mono ?_;rintro e w1 ⟨v1,rfl,o1,b1⟩;obtain ⟨g7,n7,cp7,gh,nh,ch,rfl,hn7,q1,q2,q3,q4,q5,q6,q8,q9⟩ := Hcell.out _ _ b1 o1;have O1 := Lib.hid o1;have B1 := Lib.hid b1;clear o1 b1)
 have hn71 : (0 : Int) < (n7 : Int) := by omega
 cases rb with
 | true =>
  have hge : q ≤ hv0 := of_decide_eq_true hrb2
  have hlt : ¬ hv0 < q := by omega
  have hd : decide (hv0 < q) = false := decide_eq_false hlt
  clear hrb2 hge
  go_wp2
  go_still (by kernel_rfl)
  obtain ⟨we,hwe⟩ : ∃ W : World,W = { heap := w1.heap,tape := w1.tape,drawn := w1.drawn + 1,os := w1.os,output := w1.output } := ⟨_,rfl⟩
  rw [← hwe]
  have hbe : Below w1.heap.size w1 we := by rw [hwe];exact Below.drew (Below.refl _ _)
  have Be := Lib.hid (bt B1.out hbe)
  have Oe := Lib.hid (Own.below (S := fun _ => False) (dInt.stable _ _) O1.out hbe)
  clear hbe hwe q1 q2 q3 q4 q5 q6 q8 q9
  go_wp2_with (go_at_call 151;refine (HEl.out _ _ Be.out Oe.out).mono ?_;rintro e w2 ⟨rfl,⟨v2,m2⟩,b2⟩;have M2 := Lib.hid m2;have B2 := Lib.hid b2;clear m2 b2)
  go_ret
  exact ⟨rfl,⟨v2,M2.out⟩,(Be.out.mono hlow).trans B2.out⟩
 | false =>
  have hge : ¬ q ≤ hv0 := of_decide_eq_false hrb2
  have hlt : hv0 < q := by omega
  have hd : decide (hv0 < q) = true := decide_eq_true hlt
  clear hrb2 hge
  go_wp2
  go_still (by kernel_rfl)
  obtain ⟨we,hwe⟩ : ∃ W : World,W = { heap := w1.heap,tape := w1.tape,drawn := w1.drawn + 1,os := w1.os,output := w1.output } := ⟨_,rfl⟩
  rw [← hwe]
  have hbe : Below w1.heap.size w1 we := by rw [hwe];exact Below.drew (Below.refl _ _)
  have Be := Lib.hid (bt B1.out hbe)
  clear hbe hwe q1 q2 q3 q4 q5 q6 q8 q9
  go_wp2
  go_ret
  exact ⟨rfl,⟨v,HM.out _ Be.out⟩,Be.out.mono hlow⟩
end

section
open Go Go.RowKit Go.Shelf Limb

set_option maxRecDepth 100000 in
set_option maxHeartbeats 1000000 in
theorem meeDrops1 (k : MCn) (v : MV) (s : MP) (x : Int) (w : World) (bc : Nat) (h : MSt k w v s) (hc : w.cell? ⟨bc,0,none⟩ = some (.pointer (some ⟨k.gc,0,none⟩))) (hx0 : 0 ≤ x) (hx : x < s.had.length) (hq : 1 ≤ s.quota ∧ s.quota ≤ 1000000000000001) :
  Calls Tryz.prog 153 (#[.int .i64 x] ++ #[.pointer (some ⟨bc,0,none⟩)]) w fun e w' => e = .returned (.bool (decide (gI s.had x > s.quota + 1000000))) ∧ Below w.heap.size w w' := by
 obtain ⟨xn,rfl⟩ : ∃ n : Nat,x = (n : Int) := ⟨x.toNat,by omega⟩
 obtain ⟨g,cap,c,hv,-,hgw,-,hcx,hd⟩ := Own.at1 h.oh (k := xn) (by omega)
 obtain ⟨rfl,-⟩ := hd.open
 have hgi : gI s.had (xn : Int) = s.had[xn] := gI_at (by omega)
 have c9 : w.cell? ⟨k.gc,9,none⟩ = some v.vh := h.cell.1 9
 have c11 : w.cell? ⟨k.gc,11,none⟩ = some (.int .i64 s.quota) := h.cell.1 11
 have hlg := qa0 h.bc
 have hlc := qag hc
 rw [hv] at c9
 obtain ⟨L,hL⟩ : ∃ L,s.had.length = L := ⟨_,rfl⟩
 rw [hL] at c9
 have hxL : xn < L := by omega
 obtain ⟨y,hy⟩ : ∃ y,s.had[xn] = y := ⟨_,rfl⟩
 rw [hy] at hcx hgi
 rw [hgi]
 have hw1 : IntKind.i64.wrap (s.quota + 1000000) = s.quota + 1000000 := by rw [IntKind.wrap_i64];omega
 by_cases hgt : y > s.quota + 1000000
 ·have hdt : decide (y > s.quota + 1000000) = true := decide_eq_true hgt
  rw [hdt]
  clear h hd hgi hy hL hx hv hq hx0
  go_enter Tryz.func153,Tryz.ntmps153
  go_wp2
  go_still (by kernel_rfl)
  go_wp2
  go_ret
  exact ⟨rfl,Below.drew (Below.refl _ _)⟩
 ·have hdt : decide (y > s.quota + 1000000) = false := decide_eq_false hgt
  rw [hdt]
  clear h hd hgi hy hL hx hv hq hx0
  go_enter Tryz.func153,Tryz.ntmps153
  go_wp2
  go_still (by kernel_rfl)
  go_wp2
  go_ret
  exact ⟨rfl,Below.drew (Below.refl _ _)⟩
def MP.above (s : MP) : Bool := s.el.any fun x => decide (gI s.had x > s.quota + 1000000)
set_option maxRecDepth 100000 in
set_option maxHeartbeats 2000000 in
theorem meeDrops_no (k : MCn) (v : MV) (s : MP) (C : Nat) (w : World) (h : MSt k w v s) (hok : MOk k C s) (hab : s.above = true) (ht : s.turns < 200) :
  Calls Tryz.prog 85 #[.pointer (some ⟨k.gc,0,none⟩)] w fun e w' => e = .returned (.bool false) ∧ Below w.heap.size w w' := by
 obtain ⟨W1,hW1⟩ : ∃ W,W = w.alloc (.cells #[.pointer (some ⟨k.gc,0,none⟩)] 108) := ⟨_,rfl⟩
 have hb1 : Below w.heap.size w W1 := by rw [hW1];exact qa1 _ _
 have hB : W1.heap[w.heap.size]? = some (.cells #[.pointer (some ⟨k.gc,0,none⟩)] 108 (0,0)) := by rw [hW1];exact qa8 _ _
 have h1 := h.below hb1
 have hC := slContainsF Any v.ve s.el W1 (RSl.mono (fun _ _ _ h => h) (fun _ _ => trivial) (Own.rsl h1.oe (by have := hok.el10;omega))) (by have := hok.el10;omega) 153 #[.pointer (some ⟨w.heap.size,0,none⟩)] (enters_of Tryz.func153 (by kernel_rfl) rfl)
  (fun x => decide (gI s.had x > s.quota + 1000000)) (fun W x hW hx => meeDrops1 k v s x W w.heap.size (h1.below hW) ((qa6 hW (qa0 hB) hB).2.1 0) (hok.els x hx).1 (by rw [hok.hlen];exact (hok.els x hx).2) hok.qb)
 have hab2 : (s.el.any fun x => decide (gI s.had x > s.quota + 1000000)) = true := hab
 rw [hab2] at hC
 obtain ⟨ae,ce,hve⟩ := Own.shape h1.oe
 have hcs : ∀ W,Below W1.heap.size W1 W → W.cell? ⟨w.heap.size,0,none⟩ = some (.pointer (some ⟨k.gc,0,none⟩)) ∧ W.cell? ⟨k.gc,0,none⟩ = some (.pointer (some ⟨k.gC,0,none⟩)) ∧ W.cell? ⟨k.gC,0,none⟩ = some (.slice ae s.el.length ce) ∧ W.cell? ⟨k.gc,8,none⟩ = some (.int .i64 s.turns) ∧ w.heap.size < W.heap.size ∧ k.gc < W.heap.size ∧ k.gC < W.heap.size := fun W hW =>
  ⟨(qa6 hW (qa0 hB) hB).2.1 0,(h1.below hW).cell.1 0,by rw [← hve];exact (h1.below hW).cellC.1 0,(h1.below hW).cell.1 8,Nat.lt_of_lt_of_le (qa0 hB) hW.size,qa0 (h1.below hW).bc,qa0 (h1.below hW).bC⟩
 obtain ⟨p0,p1,p2,p3,p4,p5,p6⟩ := hcs W1 (Below.refl _ _)
 have hdt : decide (s.turns < 200) = true := decide_eq_true ht
 rw [hve] at hC
 have HC := Lib.hid hC;have Hcs := Lib.hid hcs;have Hb1 := Lib.hid hb1;have HW1 := Lib.hid hW1
 rw [hW1] at p0 p1 p2 p3 p4 p5 p6
 clear hC hcs hb1 hB h1 h hok hab hab2 hve hW1
 go_enter Tryz.func85,Tryz.ntmps85
 go_wp2_with (go_at_call 92;rw [← HW1.out];refine HC.out.mono ?_;rintro e w1 ⟨rfl,b1⟩;obtain ⟨q0,q1,q2,q3,q4,q5,q6⟩ := Hcs.out _ b1;have B1 := Lib.hid b1;clear b1 p0 p1 p2 p3 p4 p5 p6)
 go_ret
 exact ⟨rfl,bt Hb1.out B1.out⟩
set_option maxRecDepth 100000 in
set_option maxHeartbeats 8000000 in
set_option linter.unusedSimpArgs false in
theorem meeDrops_yes (k : MCn) (v : MV) (s : MP) (C : Nat) (w : World) (h : MSt k w v s) (hok : MOk k C s) (hne : s.inn ≠ []) (hcond : s.above = false ∨ ¬ s.turns < 200) :
  Calls Tryz.prog 85 #[.pointer (some ⟨k.gc,0,none⟩)] w fun e w' => e = .returned (.bool true) ∧ (∃ v',MSt k w' v' (s.drop (bestL (fun y => - gI s.had y) s.inn) (firstL k.lot.reverse (bestL (fun y => - gI s.had y) s.inn)))) ∧ Below k.lo w w' := by
 obtain ⟨W1,hW1⟩ : ∃ W,W = w.alloc (.cells #[.pointer (some ⟨k.gc,0,none⟩)] 108) := ⟨_,rfl⟩
 have hb1 : Below w.heap.size w W1 := by rw [hW1];exact qa1 _ _
 have hB : W1.heap[w.heap.size]? = some (.cells #[.pointer (some ⟨k.gc,0,none⟩)] 108 (0,0)) := by rw [hW1];exact qa8 _ _
 have h1 := h.below hb1
 have hi10 := hok.inn10
 have hC := slContainsF Any v.ve s.el W1 (RSl.mono (fun _ _ _ h => h) (fun _ _ => trivial) (Own.rsl h1.oe (by have := hok.el10;omega))) (by have := hok.el10;omega) 153 #[.pointer (some ⟨w.heap.size,0,none⟩)] (enters_of Tryz.func153 (by kernel_rfl) rfl)
  (fun x => decide (gI s.had x > s.quota + 1000000)) (fun W x hW hx => meeDrops1 k v s x W w.heap.size (h1.below hW) ((qa6 hW (qa0 hB) hB).2.1 0) (hok.els x hx).1 (by rw [hok.hlen];exact (hok.els x hx).2) hok.qb)
 obtain ⟨ab,habe⟩ : ∃ b,s.above = b := ⟨_,rfl⟩
 have hab2 : (s.el.any fun x => decide (gI s.had x > s.quota + 1000000)) = ab := habe
 rw [hab2] at hC
 rw [habe] at hcond
 have hcond2 : ab = false ∨ ab = true ∧ decide (s.turns < 200) = false := by
  cases ab
  ·exact .inl rfl
  ·rcases hcond with h | h
   ·cases h
   ·exact .inr ⟨rfl,decide_eq_false h⟩
 have hamn : bestL (fun y => - gI s.had y) s.inn ≠ [] := bestL_ne hne
 have hams : (bestL (fun y => - gI s.had y) s.inn).Pairwise (fun a b => a ≤ b) := List.Pairwise.filter _ (hok.asc.imp fun h => by omega)
 have hamr : ∀ y ∈ bestL (fun y => - gI s.had y) s.inn,0 ≤ y ∧ y < (C : Int) := fun y hy => hok.rng y (qak.1 hy).1
 have haml : (bestL (fun y => - gI s.had y) s.inn).length ≤ 1000000 := Nat.le_trans (List.length_filter_le _ _) (by omega)
 obtain ⟨y0,hy0⟩ := List.exists_mem_of_ne_nil _ hamn
 have hfm := qaw (lot := k.lot.reverse) (among := bestL (fun y => - gI s.had y) s.inn) ⟨y0,List.mem_reverse.2 ((hok.lot.all _).2 (hamr _ hy0)),hy0⟩
 obtain ⟨x,hx⟩ : ∃ x : Nat,firstL k.lot.reverse (bestL (fun y => - gI s.had y) s.inn) = (x : Int) := ⟨(firstL k.lot.reverse (bestL (fun y => - gI s.had y) s.inn)).toNat,by have := hamr _ hfm.1;omega⟩
 have hxr := hamr _ hfm.1
 rw [hx] at hxr ⊢
 have hxC : x < C := by omega
 have hwx : (Lit.int .i64 (x : Int)).wf = true := WalkArith.wf_i64 (by have := hok.c10;omega)
 have eg : ∀ args w,(callFunc 152 args).run Tryz.prog w = .ok (.enter 152 args) w := enters_of Tryz.func152 (by kernel_rfl) rfl
 have hLe : ∀ W,Below w.heap.size w W → Calls Tryz.prog 130 #[v.vL,.func (.func 152) #[.pointer (some ⟨k.gc,0,none⟩)] #[]] W (GivesI (bestL (fun y => - gI s.had y) s.inn) W) := fun W hW =>
  choLeastM Any v.vL s.inn W (RSl.mono (fun _ _ _ h => h) (fun _ _ => trivial) (Own.rsl (h.below hW).oL (by omega))) (by omega) 152 (.pointer (some ⟨k.gc,0,none⟩)) eg (gI s.had) (fun y hy => by have := hok.hv y;omega)
   (fun W2 y hW2 hy => (meeHas k v _ y W2 (h.below (bt hW hW2)) (hok.rng y hy).1 (by rw [hok.hlen];exact (hok.rng y hy).2)).mono fun e w' ⟨h1,h2⟩ => ⟨h1,h2 ▸ Below.refl _ _⟩)
 have hLa : ∀ W W0 u,Below w.heap.size w W → Own W0 3 1 (dInt .i64) W u (bestL (fun y => - gI s.had y) s.inn) → Calls Tryz.prog 129 #[.pointer (some ⟨k.gC,0,none⟩),u] W fun e w' => e = .returned (.int .i64 (x : Int)) ∧ (∃ vt',MSt k w' { v with vt := vt' } { s with ties := s.ties ++ tieL (bestL (fun y => - gI s.had y) s.inn) x }) ∧ Keep ([0,4].map (k.M v)) W w' := fun W W0 u hW hu => by
  have hM := h.below hW
  have hT := choLastT (k.gc + 1) (k.R W v) (From W0) (k.T W v) u k.lot (bestL (fun y => - gI s.had y) s.inn) s.ties W k.gC v.ve v.vrd v.vt k.vl hM.bC (by have := h.l2;omega) hM.ot (fun b hb => ⟨hb.1,hb.2.1,fun e => hb.2.2 4 e.symm⟩) hM.lot (Own.rsl hu (by omega)) hamn (fun y hy => (hok.lot.all _).2 (hamr y hy)) (by rw [hx];exact hwx) hM.big (by have := hok.tlen;omega) haml hok.lots
  rw [sortI_self hams,hx] at hT
  refine hT.mono fun e w' ⟨h1,h2⟩ => ?_
  obtain ⟨vt',m,kk⟩ := hM.tell h2
  exact ⟨h1,⟨vt',m⟩,kk⟩
 obtain ⟨ae,ce,hve⟩ := Own.shape h1.oe
 obtain ⟨aL,cL,hvL⟩ := Own.shape h1.oL
 obtain ⟨nL,hnL⟩ : ∃ n,s.inn.length = n := ⟨_,rfl⟩
 rw [hnL] at hvL
 have hcs : ∀ W,Below W1.heap.size W1 W → W.cell? ⟨w.heap.size,0,none⟩ = some (.pointer (some ⟨k.gc,0,none⟩)) ∧ W.cell? ⟨k.gc,0,none⟩ = some (.pointer (some ⟨k.gC,0,none⟩)) ∧ W.cell? ⟨k.gC,0,none⟩ = some (.slice ae s.el.length ce) ∧ W.cell? ⟨k.gc,8,none⟩ = some (.int .i64 s.turns) ∧ w.heap.size < W.heap.size ∧ k.gc < W.heap.size ∧ k.gC < W.heap.size := fun W hW =>
  ⟨(qa6 hW (qa0 hB) hB).2.1 0,(h1.below hW).cell.1 0,by rw [← hve];exact (h1.below hW).cellC.1 0,(h1.below hW).cell.1 8,Nat.lt_of_lt_of_le (qa0 hB) hW.size,qa0 (h1.below hW).bc,qa0 (h1.below hW).bC⟩
 have hS : ∀ W,Below W1.heap.size W1 W → W.cell? ⟨w.heap.size,0,none⟩ = some (.pointer (some ⟨k.gc,0,none⟩)) ∧ W.cell? ⟨k.gc,0,none⟩ = some (.pointer (some ⟨k.gC,0,none⟩)) ∧ W.cell? ⟨k.gc,7,none⟩ = some (.slice aL nL cL) := fun W hW =>
  ⟨(qa6 hW (qa0 hB) hB).2.1 0,(h1.below hW).cell.1 0,by rw [← hvL];exact (h1.below hW).cell.1 7⟩
 have hS3 : ∀ W w' vt',Below W1.heap.size W1 W → Keep ([0,4].map (k.M v)) W w' → MSt k w' { v with vt := vt' } { s with ties := s.ties ++ tieL (bestL (fun y => - gI s.had y) s.inn) x } → w'.cell? ⟨w.heap.size,0,none⟩ = some (.pointer (some ⟨k.gc,0,none⟩)) ∧ w'.cell? ⟨k.gc,0,none⟩ = some (.pointer (some ⟨k.gC,0,none⟩)) ∧ w'.cell? ⟨k.gc,7,none⟩ = some (.slice aL nL cL) := fun W w' vt' hW hk hm => by
  have hb := hk.box (qax hW hB) (fun hm2 => by
   obtain ⟨i,-,he⟩ := List.mem_map.1 hm2
   have := (h.low i _ he).2
   omega)
  exact ⟨(qa6 (Below.refl _ w') (qa0 hb) hb).2.1 0,hm.cell.1 0,by rw [← hvL];exact hm.cell.1 7⟩
 obtain ⟨gk,ck,c0,hvk,-,-,-,-,-⟩ := Own.at1 h.ok (k := x) (by rw [hok.K.len];exact hxC)
 have hfin : ∀ w3 vt',MSt k w3 { v with vt := vt' } { s with ties := s.ties ++ tieL (bestL (fun y => - gI s.had y) s.inn) x } → Below k.lo w w3 → (∃ c,w3.cell? ⟨k.gc,6,none⟩ = some (.slice (some ⟨gk,0,none⟩) C ck) ∧ w3.cell? ⟨gk,x,none⟩ = some c ∧ w3.frozen? ⟨gk,x,none⟩ = false ∧ gk < w3.heap.size ∧ k.gc < w3.heap.size ∧ w3.frozen? ⟨k.gc,17,none⟩ = false ∧ w3.cell? ⟨k.gc,17,none⟩ = some v.vo) ∧
   ∃ v6,MSt k (((w3.setCell ⟨gk,x,none⟩ (.int .i64 0)).setCell ⟨k.gc,17,none⟩ (.slice (some ⟨w3.heap.size,0,none⟩) 1 1)).alloc (.cells #[.int .i64 (x : Int)] 3)) v6 { s with ties := s.ties ++ tieL (bestL (fun y => - gI s.had y) s.inn) x,K := s.K.set x 0,ro := [(x : Int)] } ∧
    Below k.lo w (((w3.setCell ⟨gk,x,none⟩ (.int .i64 0)).setCell ⟨k.gc,17,none⟩ (.slice (some ⟨w3.heap.size,0,none⟩) 1 1)).alloc (.cells #[.int .i64 (x : Int)] 3)) := fun w3 vt' hm hb => by
  have hxK : x < s.K.length := by rw [hok.K.len];exact hxC
  obtain ⟨g',cp',c',hv',-,hgl,hfz,hcx,-⟩ := Own.at1 hm.ok (k := x) hxK
  have hvk2 : v.vk = .slice (some ⟨g',0,none⟩) s.K.length cp' := hv'
  rw [hvk] at hvk2
  simp only [Value.slice.injEq,Option.some.injEq,Addr.mk.injEq,and_true,true_and] at hvk2
  obtain ⟨rfl,rfl⟩ := hvk2
  obtain ⟨m5,k5⟩ := hm.setK (g := gk) (x := x) (by show v.vk.ownBlock = _;rw [hvk];rfl) hxK (y := 0) rfl
  have hgc := qa0 m5.bc
  have hbn := qa1 (w3.setCell ⟨gk,x,none⟩ (.int .i64 0)) (.cells #[.int .i64 (x : Int)] 3)
  have hbx := qa8 (w3.setCell ⟨gk,x,none⟩ (.int .i64 0)) (.cells #[.int .i64 (x : Int)] 3)
  have m6 := m5.below hbn
  have hsz : (w3.setCell ⟨gk,x,none⟩ (.int .i64 0)).heap.size = w3.heap.size := qai ..
  obtain ⟨m7,k7⟩ := m6.put 17 (.slice (some ⟨w3.heap.size,0,none⟩) 1 1) { v with vt := vt',vo := .slice (some ⟨w3.heap.size,0,none⟩) 1 1 } { s with ties := s.ties ++ tieL (bestL (fun y => - gI s.had y) s.inn) x,K := s.K.set x 0,ro := [(x : Int)] } rfl (fun i b hi => by
   rcases i with _ | _ | _ | _ | _ | _ | _ | _ | _ | i <;> exact hi) ⟨rfl,rfl,rfl⟩ rfl rfl rfl ⟨rfl,rfl⟩ ⟨rfl,rfl⟩ (.inl ⟨rfl,rfl⟩) (.inl ⟨rfl,rfl⟩) (.inr (by
    rw [hsz] at hbx
    refine RInts.mono (fun b hb => ?_) (RInts.cut (RSl.built (w' := (w3.setCell ⟨gk,x,none⟩ (.int .i64 0)).alloc (.cells #[.int .i64 (x : Int)] 3)) (lo := w3.heap.size) (cs := [.int .i64 (x : Int)]) (Nat.le_refl _) hbx rfl ⟨rfl,hwx⟩))
    have h1 : w3.heap.size ≤ b := hb.1
    exact ⟨by have := hm.big;omega,hb.2,fun i hi => by have := (m5.low i b hi).2;rw [hsz] at this;omega⟩))
  rw [World.setCell_alloc_past _ _ _ _ hgc] at m7 k7
  refine ⟨⟨c',?_,hcx,hfz x,hgl,qa0 hm.bc,hm.cell.2 17,hm.cell.1 17⟩,_,m7,?_⟩
  ·have := hm.cell.1 6
   rw [show w3.cell? ⟨k.gc,6,none⟩ = some v.vk from this,hvk,hok.K.len]
  ·refine (hb.trans (hm.keepL k5)).trans ?_
   have hl1 := hm.l1
   have hl2 := hm.l2
   exact ((Below.refl _ _).setCell (p := ⟨k.gc,17,none⟩) (by dsimp only;omega) _).alloc (by rw [qai,hsz];have := hm.big;omega) _
 have hLv : ∀ W v6,MSt k W v6 { s with ties := s.ties ++ tieL (bestL (fun y => - gI s.had y) s.inn) x,K := s.K.set x 0,ro := [(x : Int)] } → Calls Tryz.prog 154 #[.pointer (some ⟨k.gc,0,none⟩),.int .i64 (x : Int)] W fun e w' => e = .returned (.tuple #[]) ∧ (∃ v',MSt k w' v' (s.drop (bestL (fun y => - gI s.had y) s.inn) (x : Int))) ∧ Below k.lo W w' := fun W v6 hm =>
  meeLeave k v6 _ (x : Int) W hm hne (by show s.inn.length ≤ _;omega)
 have hlow : k.lo ≤ w.heap.size := by have := h.big;have := h.l1;have := h.l2;omega
 have hlow4 : ∀ W w',Below w.heap.size w W → Keep ([0,4].map (k.M v)) W w' → Below k.lo w w' := fun W w' hW hk => (hW.mono hlow).trans ((h.below hW).keepL hk)
 obtain ⟨p0,p1,p2,p3,p4,p5,p6⟩ := hcs W1 (Below.refl _ _)
 rw [hve] at hC
 rw [hvL] at hLe
 have HC := Lib.hid hC;have Hcs := Lib.hid hcs;have HS := Lib.hid hS;have HS3 := Lib.hid hS3;have Hfin := Lib.hid hfin;have HLv := Lib.hid hLv;have Hlow4 := Lib.hid hlow4;have HLe := Lib.hid hLe;have HLa := Lib.hid hLa;have Hb1 := Lib.hid hb1;have HW1 := Lib.hid hW1;have HxC := Lib.hid hxC
 rw [hW1] at p0 p1 p2 p3 p4 p5 p6
 have hC10 : C ≤ 10 := hok.c10
 have hgkl : gk < w.heap.size := (h.low 5 gk (by show v.vk.ownBlock = _;rw [hvk];rfl)).2
 have hgcl : k.gc < w.heap.size := qa0 h.bc
 have hgg : ¬ gk = k.gc := fun e => by have := h.ap 5 1 gk (by show v.vk.ownBlock = _;rw [hvk];rfl) (by rw [e];rfl);omega
 have hgg2 : ¬ k.gc = gk := fun e => hgg e.symm
 clear hC hcs hS hS3 hfin hLv hlow4 hLe hLa hb1 hB h1 h hok hab2 habe hcond hve hvL hnL hvk hamn hams hamr haml hy0 hfm hx hxr eg hne hi10 hW1 hlow
 go_enter Tryz.func85,Tryz.ntmps85
 rcases hcond2 with rfl | ⟨rfl,hdt⟩
 all_goals
  go_upto_region 4 with (go_at_call 92;rw [← HW1.out];refine HC.out.mono ?_;rintro e w1 ⟨rfl,b1⟩;obtain ⟨q0,q1,q2,q3,q4,q5,q6⟩ := Hcs.out _ b1;have B1 := Lib.hid b1;clear b1 p0 p1 p2 p3 p4 p5 p6)
  clear q0 q1 q2 q3 q4 q5 q6
  have hb0 := bt Hb1.out (bt B1.out (Below.drew (Below.refl _ w1)))
  have B0 := Lib.hid hb0
  have B0' := Lib.hid (bt B1.out (Below.drew (Below.refl _ w1)))
  clear hb0
  refine qat (S := (fun W : World => W.cell? ⟨w.heap.size,0,none⟩ = some (.pointer (some ⟨k.gc,0,none⟩)) ∧ W.cell? ⟨k.gc,0,none⟩ = some (.pointer (some ⟨k.gC,0,none⟩)) ∧ W.cell? ⟨k.gc,7,none⟩ = some (.slice aL nL cL))) (L := [12]) (by kernel_rfl) (HS.out _ B0'.out) (fun hHeld => ?_)
  refine tk 0 ?_ rfl hHeld ?_ ?_;rotate_left
  ·intro w hSw;(try dsimp only at hSw);go_simp;try (with_reducible rfl)
  (try simp only [la,lb,lc,ld,lf,lg,lh])
  refine tk 1 ?_ rfl hHeld ?_ ?_;rotate_left
  ·intro w hSw;(try dsimp only at hSw);go_simp;try (with_reducible rfl)
  (try simp only [la,lb,lc,ld,lf,lg,lh])
  refine tk 2 ?_ rfl hHeld ?_ ?_;rotate_left
  ·intro w hSw;(try dsimp only at hSw);go_simp;try (with_reducible rfl)
  (try simp only [la,lb,lc,ld,lf,lg,lh])
  refine tk 3 ?_ rfl hHeld ?_ ?_;rotate_left
  ·intro w hSw;(try dsimp only at hSw);go_simp;try (with_reducible rfl)
  (try simp only [la,lb,lc,ld,lf,lg,lh])
  refine tk 4 ?_ rfl hHeld ?_ ?_;rotate_left
  ·intro w hSw;(try dsimp only at hSw);go_simp;try (with_reducible rfl)
  (try simp only [la,lb,lc,ld,lf,lg,lh])
  refine tk 5 ?_ rfl hHeld ?_ ?_;rotate_left
  ·intro w hSw;(try dsimp only at hSw);go_simp;try (with_reducible rfl)
  (try simp only [la,lb,lc,ld,lf,lg,lh])
  refine tk 6 ?_ rfl hHeld ?_ ?_;rotate_left
  ·intro w hSw;(try dsimp only at hSw);go_simp;try (with_reducible rfl)
  (try simp only [la,lb,lc,ld,lf,lg,lh])
  refine tk 7 ?_ rfl hHeld ?_ ?_;rotate_left
  ·intro w hSw;(try dsimp only at hSw);go_simp;try (with_reducible rfl)
  (try simp only [la,lb,lc,ld,lf,lg,lh])
  refine tk 8 ?_ rfl hHeld ?_ ?_;rotate_left
  ·intro w hSw;(try dsimp only at hSw);go_simp;try (with_reducible rfl)
  (try simp only [la,lb,lc,ld,lf,lg,lh])
  refine tk 9 ?_ rfl hHeld ?_ ?_;rotate_left
  ·intro w hSw;(try dsimp only at hSw);go_simp;try (with_reducible rfl)
  (try simp only [la,lb,lc,ld,lf,lg,lh])
  refine qa9 (i := 10) (by kernel_rfl) rfl (fun K hK => ?_)
  (go_simp;go_at_call 130;refine (HLe.out _ B0.out).mono ?_;rintro e w2 ⟨u2,rfl,o2,b2⟩;obtain ⟨a2,n2,c2,rfl⟩ := Own.slice o2;have O2 := Lib.hid o2;have B2 := Lib.hid (bt B0.out b2);have B2' := Lib.hid (bt B0'.out b2);clear o2 b2)
  refine hK.out _ _ (HS.out _ B2'.out) (fun hHeld => ?_)
  clear hK K
  (try simp only [la,lb,lc,ld,lf,lg,lh])
  refine qa9 (i := 11) (by kernel_rfl) rfl (fun K hK => ?_)
  (go_simp;go_at_call 129;refine (HLa.out _ _ _ B2.out O2.out).mono ?_;rintro e w3 ⟨rfl,⟨vt3,m3⟩,k3⟩;obtain ⟨r0,r01,r02⟩ := HS3.out _ _ _ B2'.out k3 m3;have B3 := Lib.hid (Hlow4.out _ _ B2.out k3);have M3 := Lib.hid m3;clear m3 k3)
  refine hK.out _ _ (And.intro r0 (And.intro r01 r02)) (fun hHeld => ?_)
  clear hK K
  (try simp only [la,lb,lc,ld,lf,lg,lh])
  refine wpAnyL_last (i := 12) (by kernel_rfl) rfl (by kernel_rfl) (fun K hK => ?_)
  go_simp
  refine hK.out _ _ ?_
  clear hK K
  (try simp only [la,lb,lc,ld,lf,lg,lh])
  refine qam (by kernel_rfl) ?_ _
  obtain ⟨⟨cx,r1,r2,r3,r4,r5,r6,r8⟩,v6,m6,b6⟩ := Hfin.out _ _ M3.out B3.out
  clear r01 r02
  have r7 := qag r0
  have hxC2 := HxC.out
  have M6 := Lib.hid m6;have B6 := Lib.hid b6
  clear m6 b6 M3 B3 HC Hcs HS HS3 Hfin Hlow4 HLe HLa
  go_upto_region 7 with fail
  obtain ⟨W6,hW6⟩ : ∃ W,W = ((w3.setCell ⟨gk,x,none⟩ (.int .i64 0)).setCell ⟨k.gc,17,none⟩ (.slice (some ⟨w3.heap.size,0,none⟩) 1 1)).alloc (.cells #[.int .i64 (x : Int)] 3) := ⟨_,rfl⟩
  rw [← hW6] at M6 B6 ⊢
  have hLv := HLv.out _ _ M6.out
  have HLv6 := Lib.hid hLv
  have c6 : W6.cell? ⟨w.heap.size,0,none⟩ = some (.pointer (some ⟨k.gc,0,none⟩)) := by
   rw [hW6]
   refine (Same.of_below (S := Any) (qa1 _ _)).cell trivial ?_
   exact (Same.setCell (S := fun b => b = w.heap.size) (Same.setCell (Same.refl _ _) (fun h => by dsimp only at h;omega) _) (fun h => by dsimp only at h;omega) _).cell rfl r0
  have l6 := qag c6
  clear hLv hW6 r0 r1 r2 r3 r4 r5 r6 r7 r8 M6
  go_wp2_with (go_at_call 154;refine HLv6.out.mono ?_;rintro e w7 ⟨rfl,m7,b7⟩;have M7 := Lib.hid m7;have B7 := Lib.hid b7;clear m7 b7)
  go_ret
  exact ⟨rfl,M7.out,B6.out.trans B7.out⟩
def keepMV (value n most : Int) : Int := if passI value n most = 0 then keepM value n most else 0
set_option maxHeartbeats 1000000 in
theorem meeKeep (value n most : Int) (w : World) (hv : (Lit.int .i64 value).wf = true) (hn : (Lit.int .i64 n).wf = true) :
  Calls Tryz.prog 37 #[.int .i64 value,.int .i64 n,.int .i64 most] w fun e w' => e = .returned (.tuple #[.int .i64 (keepMV value n most),.int .i64 (passI value n most)]) ∧ Below w.heap.size w w' := by
 unfold keepMV keepM
 by_cases h1 : 0 ≤ value
 ·by_cases h2 : value ≤ 1000000000
  ·by_cases h3 : 0 ≤ most
   ·by_cases h4 : most ≤ n
    ·obtain ⟨s1, s2⟩ := share_pass (value := value) (n := n) (most := most) ⟨h1, h2⟩ ⟨h3, h4⟩
     have hn2 : n ≤ 9223372036854775807 := (i64_bounds hn).2
     have hwf : (Lit.int .i64 (n - most)).wf = true := WalkArith.wf_i64 (by omega)
     have hS := fun W => quoShare value (n - most) n W hv hwf hn
     have hsub : IntKind.i64.wrap (n - most) = n - most := by rw [IntKind.wrap_i64];omega
     have g1 : ¬ value < 0 := by omega
     have g2 : ¬ value > 1000000000 := by omega
     have g3 : ¬ most < 0 := by omega
     have g4 : ¬ most > n := by omega
     by_cases hp : passI value n most = 0
     ·rw [s1.2 hp, s2 hp] at hS
      rw [hp,if_pos rfl]
      have hnpos : 1 ≤ n := by
       unfold passI at hp
       split at hp
       ·rename_i hh;exact hh.2.2.1
       ·cases hp
      have hpb := pass_bound (v := value) (n := n) (Q := most) h1 ⟨h3,h4⟩ hnpos
      obtain ⟨Q,hQ⟩ : ∃ Q,value * (n - most) / n = Q := ⟨_,rfl⟩
      rw [hQ] at hS hpb ⊢
      have hw1 : IntKind.i64.wrap (value - Q) = value - Q := by rw [IntKind.wrap_i64];omega
      have HS := Lib.hid hS
      clear hS hQ hp s1 s2 hv hn hwf hpb hnpos
      go_enter Tryz.func37,Tryz.ntmps37
      go_wp2_with (go_at_call 74;refine (HS.out _).mono ?_;rintro e w2 ⟨rfl,hb2⟩)
      go_ret2
      exact ⟨rfl,hb2⟩
     ·have hs : shareI value (n - most) n ≠ 0 := fun e => hp (s1.1 e)
      have hp2 : passI value n most = 2 := by
       unfold passI at hp ⊢
       split
       ·rename_i hh;rw [if_pos hh] at hp;exact absurd rfl hp
       ·rfl
      rw [hp2,if_neg (by omega)]
      obtain ⟨I,hI⟩ : ∃ I,shareI value (n - most) n = I := ⟨_,rfl⟩
      obtain ⟨V,hV⟩ : ∃ V,shareV value (n - most) n = V := ⟨_,rfl⟩
      rw [hI] at hs hS
      rw [hV] at hS
      have hne : (I != 0) = true := by simpa using hs
      have HS := Lib.hid hS
      clear hS hI hV hp hp2 s1 s2 hv hn hwf
      go_enter Tryz.func37,Tryz.ntmps37
      go_wp2_with (go_at_call 74;refine (HS.out _).mono ?_;rintro e w2 ⟨rfl,hb2⟩)
      go_ret2
      exact ⟨rfl,hb2⟩
    ·have hp : passI value n most = 2 := by rw [passI, if_neg (by omega)]
     rw [hp,if_neg (by omega)]
     have g1 : ¬ value < 0 := by omega
     have g2 : ¬ value > 1000000000 := by omega
     have g3 : ¬ most < 0 := by omega
     have g4 : most > n := by omega
     clear hp hv hn
     go_enter Tryz.func37,Tryz.ntmps37
     go_wp2
     go_ret2
     exact ⟨rfl,Below.refl _ _⟩
   ·have hp : passI value n most = 2 := by rw [passI, if_neg (by omega)]
    rw [hp,if_neg (by omega)]
    have g1 : ¬ value < 0 := by omega
    have g2 : ¬ value > 1000000000 := by omega
    have g3 : most < 0 := by omega
    clear hp hv hn
    go_enter Tryz.func37,Tryz.ntmps37
    go_wp2
    go_ret2
    exact ⟨rfl,Below.refl _ _⟩
  ·have hp : passI value n most = 2 := by rw [passI, if_neg (by omega)]
   rw [hp,if_neg (by omega)]
   have g1 : ¬ value < 0 := by omega
   have g2 : value > 1000000000 := by omega
   clear hp hv hn
   go_enter Tryz.func37,Tryz.ntmps37
   go_wp2
   go_ret2
   exact ⟨rfl,Below.refl _ _⟩
 ·have hp : passI value n most = 2 := by rw [passI, if_neg (by omega)]
  rw [hp,if_neg (by omega)]
  have g1 : value < 0 := by omega
  clear hp hv hn
  go_enter Tryz.func37,Tryz.ntmps37
  go_wp2
  go_ret2
  exact ⟨rfl,Below.refl _ _⟩
end

section
open Go Go.RowKit Go.Shelf Limb

theorem fl_gI {K : List Int} {C : Nat} (h : K.length = C) : (fl C fun x => gI K x) = K := by
 refine List.ext_getElem (by rw [qae,h]) fun i h1 h2 => ?_
 rw [fl_get,gI_at h2]
def MP.keepJ (s : MP) (C j : Nat) : List Int := fl C fun x => if (s.el.take j).contains (x : Int) && decide (gI s.had x > s.quota) then keepM (gI s.K x) (gI s.had x) s.quota else gI s.K x
theorem keepJ_zero {s : MP} {C : Nat} (h : s.K.length = C) : s.keepJ C 0 = s.K := by
 rw [← fl_gI h]
 unfold MP.keepJ
 refine fl_congr fun x _ => ?_
 simp
theorem keepJ_skip {s : MP} {C j : Nat} (hj : j < s.el.length) (h : ¬ gI s.had s.el[j] > s.quota) : s.keepJ C (j + 1) = s.keepJ C j := by
 unfold MP.keepJ
 refine fl_congr fun x _ => ?_
 rw [List.take_succ_eq_append_getElem hj]
 by_cases e : (x : Int) = s.el[j]
 ·rw [e,decide_eq_false h,Bool.and_false,Bool.and_false]
 ·rw [show (s.el.take j ++ [s.el[j]]).contains (x : Int) = (s.el.take j).contains (x : Int) from by
   rw [Bool.eq_iff_iff,List.contains_iff_mem,List.contains_iff_mem,List.mem_append,List.mem_singleton]
   exact ⟨fun h => h.elim id fun h => absurd h e,.inl⟩]
theorem keepJ_at {s : MP} {C j x : Nat} (hj : j < s.el.length) (hnd : s.el.Nodup) (he : s.el[j] = (x : Int)) (hx : x < C) : gI (s.keepJ C j) x = gI s.K x := by
 unfold MP.keepJ
 rw [gI_fl2 hx]
 have : (s.el.take j).contains (x : Int) = false := by
  rw [Bool.eq_false_iff]
  intro h
  rw [List.contains_iff_mem] at h
  obtain ⟨i,hi,hq⟩ := List.getElem_of_mem h
  rw [List.getElem_take] at hq
  rw [List.length_take] at hi
  have hij : i < s.el.length := by omega
  have := (List.getElem_inj hnd).1 (show s.el[i] = s.el[j] from hq.trans he.symm)
  omega
 rw [this];rfl
theorem keepJ_set {s : MP} {C j x : Nat} (hj : j < s.el.length) (he : s.el[j] = (x : Int)) (h : gI s.had x > s.quota) : (s.keepJ C j).set x (keepM (gI s.K x) (gI s.had x) s.quota) = s.keepJ C (j + 1) := by
 unfold MP.keepJ
 rw [fl_set]
 refine fl_congr fun z _ => ?_
 rw [List.take_succ_eq_append_getElem hj,he]
 by_cases e : z = x
 ·subst e
  rw [if_pos rfl,decide_eq_true h,Bool.and_true,if_pos (by simp)]
 ·rw [if_neg e,show (s.el.take j ++ [(x : Int)]).contains (z : Int) = (s.el.take j).contains (z : Int) by rw [Bool.eq_iff_iff];simp;omega]
theorem keepJ_all {s : MP} {C : Nat} : s.keepJ C s.el.length = fl C fun x => if s.el.contains (x : Int) && decide (gI s.had x > s.quota) then keepM (gI s.K x) (gI s.had x) s.quota else gI s.K x := by
 unfold MP.keepJ
 rw [List.take_length]
set_option maxRecDepth 100000 in
set_option maxHeartbeats 8000000 in
set_option linter.unusedSimpArgs false in
theorem meeKeepC (k : MCn) (v : MV) (s : MP) (C : Nat) (w : World) (h : MSt k w v s) (hok : MOk k C s) :
  Calls Tryz.prog 86 #[.pointer (some ⟨k.gc,0,none⟩)] w fun e w' => e = .returned (.bool false) ∧ (∃ v',MSt k w' v' { s with K := s.keepJ C s.el.length }) ∧ Below k.lo w w' := by
 have h0 : MSt k w v { s with K := s.keepJ C 0 } := by rw [keepJ_zero hok.K.len];exact h
 have hlow : k.lo ≤ w.heap.size := by have := h.big;have := h.l1;have := h.l2;omega
 obtain ⟨ae,ce,hve⟩ := Own.shape h.oe
 obtain ⟨m,hm⟩ : ∃ m,s.el.length = m := ⟨_,rfl⟩
 rw [hm] at hve
 have c0 : w.cell? ⟨k.gc,0,none⟩ = some (.pointer (some ⟨k.gC,0,none⟩)) := h.cell.1 0
 have cC : w.cell? ⟨k.gC,0,none⟩ = some v.ve := h.cellC.1 0
 rw [hve] at cC
 have hlg := qa0 h.bc
 have hlC := qa0 h.bC
 have hm10 : m ≤ 10 := hm ▸ hok.el10
 rw [hm]
 have H0 := Lib.hid h0;have Hok := Lib.hid hok;have Hve := Lib.hid hve;have Hm := Lib.hid hm;have Hlow := Lib.hid hlow
 clear h0 h hok hve hm hlow
 go_enter Tryz.func86,Tryz.ntmps86
 go_wp2
 clear c0 cC hlg hlC
 go_loopw [4,14] (fun _ i wr => ∃ j : Nat,j ≤ m ∧ i = .int .i64 j ∧ Hid (MSt k wr v { s with K := s.keepJ C j }) ∧ Hid (Below k.lo w wr)) (fun _ i _ => m - (intOf i).toNat)
 case atStart => exact ⟨0,Nat.zero_le _,rfl,H0,Lib.hid (Below.refl _ _)⟩
 case round =>
  obtain ⟨j,hj,rfl,hM,hb⟩ := hrel
  by_cases hlt : j < m
  ·have hlr : j < s.el.length := by rw [Hm.out]; exact hlt
   obtain ⟨x0,x1⟩ := Hok.out.els _ (List.getElem_mem hlr)
   obtain ⟨x,hx⟩ : ∃ x : Nat,s.el[j] = (x : Int) := ⟨s.el[j].toNat,by omega⟩
   have hxC : x < C := by omega
   have he := Own.rsl hM.out.oe (by show s.el.length ≤ _;rw [Hm.out];omega)
   rw [Hve.out] at he
   obtain ⟨b,off,c,rfl,-,hbw,hc,hd⟩ := RSl.at1 he j (by show j < s.el.length;exact hlr)
   have hd2 : dInt .i64 wr [c] s.el[j] := hd
   obtain ⟨rfl,-⟩ := hd2.open
   rw [hx] at hc
   have hxh : x < s.had.length := by rw [Hok.out.hlen];exact hxC
   have hxk : x < (s.keepJ C j).length := by show x < (fl C _).length;rw [qae];exact hxC
   obtain ⟨gh,ch,c1,hvh,-,hlh,-,hch,hdh⟩ := Own.at1 hM.out.oh (k := x) (by show x < s.had.length;rw [Hok.out.hlen];exact hxC)
   have hdh2 : dInt .i64 wr [c1] s.had[x] := hdh
   obtain ⟨rfl,-⟩ := hdh2.open
   have hgh : gI s.had (x : Int) = s.had[x]'(by rw [Hok.out.hlen];exact hxC) := gI_at (by rw [Hok.out.hlen];exact hxC)
   rw [← hgh] at hch
   have hvh2 : v.vh = .slice (some ⟨gh,0,none⟩) s.had.length ch := hvh
   rw [Hok.out.hlen] at hvh2
   obtain ⟨gk,ck,c2,hvk,-,hlk,hfk,hck,hdk⟩ := Own.at1 hM.out.ok (k := x) (by show x < (fl C _).length;rw [qae];exact hxC)
   have hvk2 : v.vk = .slice (some ⟨gk,0,none⟩) (fl C _).length ck := hvk
   rw [qae] at hvk2
   have hdk2 : dInt .i64 wr [c2] (s.keepJ C j)[x] := hdk
   obtain ⟨rfl,-⟩ := hdk2.open
   have hgk : gI s.K (x : Int) = (s.keepJ C j)[x]'(by show x < (fl C _).length;rw [qae];exact hxC) := by
    rw [← keepJ_at hlr Hok.out.elnd hx hxC]
    exact gI_at (by show x < (fl C _).length;rw [qae];exact hxC)
   rw [← hgk] at hck
   have hvb := Hok.out.hv (x : Int)
   have hkb := Hok.out.K.ok (x : Int)
   have hqb := Hok.out.qb
   have hset := fun h => keepJ_set (C := C) hlr hx h
   have hskip := fun h => keepJ_skip (C := C) hlr h
   have hbk := fun h1 h2 => keep_bound (k := gI s.K (x : Int)) (n := gI s.had (x : Int)) (q := s.quota) hkb h1 h2
   have hS : ∀ W,Below wr.heap.size wr W → W.cell? ⟨k.gc,6,none⟩ = some (.slice (some ⟨gk,0,none⟩) C ck) ∧ W.cell? ⟨k.gc,9,none⟩ = some (.slice (some ⟨gh,0,none⟩) C ch) ∧ W.cell? ⟨k.gc,11,none⟩ = some (.int .i64 s.quota) ∧ W.cell? ⟨gh,x,none⟩ = some (.int .i64 (gI s.had (x : Int))) := fun W hW =>
    ⟨by rw [← hvk2];exact (hM.out.below hW).cell.1 6,by rw [← hvh2];exact (hM.out.below hW).cell.1 9,(hM.out.below hW).cell.1 11,(Same.of_below (S := Any) hW).cell trivial hch⟩
   have hck2 : ∀ W,Below wr.heap.size wr W → W.cell? ⟨gk,x,none⟩ = some (.int .i64 (gI s.K (x : Int))) := fun W hW => (Same.of_below (S := Any) hW).cell trivial hck
   have hgg : ¬ gk = k.gc := fun e => by have := hM.out.ap 5 1 gk (by show v.vk.ownBlock = _;rw [hvk];rfl) (by rw [e];rfl);omega
   have hgh2 : ¬ gk = gh := fun e => by have := hM.out.ap 5 7 gk (by show v.vk.ownBlock = _;rw [hvk];rfl) (by rw [e];show v.vh.ownBlock = _;rw [hvh2];rfl);omega
   have hst : ∀ W,Below wr.heap.size wr W → ∀ y,(Lit.int .i64 y).wf = true → MSt k (W.setCell ⟨gk,x,none⟩ (.int .i64 y)) v { s with K := (s.keepJ C j).set x y } ∧ Below k.lo w (W.setCell ⟨gk,x,none⟩ (.int .i64 y)) := fun W hW y hy => by
    obtain ⟨m5,k5⟩ := (hM.out.below hW).setK (g := gk) (x := x) (by show v.vk.ownBlock = _;rw [hvk];rfl) (by show x < (fl C _).length;rw [qae];exact hxC) hy
    exact ⟨m5,(hb.out.trans (hW.mono (by have := hM.out.big;have := hM.out.l1;have := hM.out.l2;omega))).trans ((hM.out.below hW).keepL k5)⟩
   have hlgc := qa0 hM.out.bc
   obtain ⟨hh,hhe⟩ : ∃ y,gI s.had (x : Int) = y := ⟨_,rfl⟩
   obtain ⟨kk,hke⟩ : ∃ y,gI s.K (x : Int) = y := ⟨_,rfl⟩
   obtain ⟨q,hqe⟩ : ∃ y,s.quota = y := ⟨_,rfl⟩
   rw [hhe] at hvb hset hbk hS hch
   rw [hx,hhe] at hskip
   rw [hke] at hkb hset hbk hck2 hck
   rw [hqe] at hqb hset hskip hbk hS
   have c6 := (hS wr (Below.refl _ _)).1
   have c9 := (hS wr (Below.refl _ _)).2.1
   have c11 := (hS wr (Below.refl _ _)).2.2.1
   have HS := Lib.hid hS;have Hck := Lib.hid hck2;have Hst := Lib.hid hst;have HMd := Lib.hid (hM.out.below (Below.drew (Below.refl _ wr)));have Hbd := Lib.hid (hb.out.trans ((Below.drew (Below.refl _ wr)).mono (by have := hM.out.big;have := hM.out.l1;have := hM.out.l2;omega)))
   have hfk2 := hfk x
   by_cases hgt : hh > q
   ·have hdg : decide (hh > q) = true := decide_eq_true hgt
    have hK := meeKeep kk hh q
    have hpi : passI kk hh q = 0 := by rw [passI,if_pos ⟨hkb,by omega,by omega⟩]
    have hkv : keepMV kk hh q = keepM kk hh q := by rw [keepMV,if_pos hpi]
    have hb3 := hbk (by omega) (by omega)
    rw [hpi,hkv] at hK
    have hse := hset hgt
    obtain ⟨y,hye⟩ : ∃ y,keepM kk hh q = y := ⟨_,rfl⟩
    rw [hye] at hK hb3 hse
    have hKW := fun W => hK W (WalkArith.wf_i64 (by omega)) (WalkArith.wf_i64 (by omega))
    have hfin : ∀ W,Below wr.heap.size wr W → MSt k (W.setCell ⟨gk,x,none⟩ (.int .i64 y)) v { s with K := s.keepJ C (j + 1) } ∧ Below k.lo w (W.setCell ⟨gk,x,none⟩ (.int .i64 y)) := fun W hW => by rw [← hse];exact hst W hW y (WalkArith.wf_i64 (by omega))
    have hSf : ∀ W,Below wr.heap.size wr W → (W.setCell ⟨gk,x,none⟩ (.int .i64 y)).cell? ⟨k.gc,6,none⟩ = some (.slice (some ⟨gk,0,none⟩) C ck) ∧ (W.setCell ⟨gk,x,none⟩ (.int .i64 y)).cell? ⟨k.gc,9,none⟩ = some (.slice (some ⟨gh,0,none⟩) C ch) ∧ (W.setCell ⟨gk,x,none⟩ (.int .i64 y)).cell? ⟨k.gc,11,none⟩ = some (.int .i64 q) ∧ (W.setCell ⟨gk,x,none⟩ (.int .i64 y)).cell? ⟨gh,x,none⟩ = some (.int .i64 hh) := fun W hW => by
     obtain ⟨s1,s2,s3,s4⟩ := hS W hW
     have e := Same.setCell (S := fun b => b ≠ gk) (Same.refl _ W) (p := ⟨gk,x,none⟩) (fun h => h rfl) (.int .i64 y)
     exact ⟨e.cell (fun h => hgg h.symm) s1,e.cell (fun h => hgg h.symm) s2,e.cell (fun h => hgg h.symm) s3,e.cell (fun h => hgh2 h.symm) s4⟩
    have HKW := Lib.hid hKW;have Hfin := Lib.hid hfin;have HSf := Lib.hid hSf
    have hlow2 : wr.heap.size ≤ wr.drew.heap.size := Nat.le_refl _
    have hfrz : ∀ W,Below wr.heap.size wr W → W.frozen? ⟨gk,x,none⟩ = false ∧ gk < W.heap.size := fun W hW => by
     have e := hW.frozen (p := ⟨gk,x,none⟩) hlk
     exact ⟨e.trans hfk2,Nat.lt_of_lt_of_le hlk hW.size⟩
    have Hfrz := Lib.hid hfrz
    clear hK hKW hfin hSf hset hskip hbk hS hck2 hst hse hye hb3 hpi hkv hhe hke hqe hgh hgk hd hd2 hdh hdh2 hdk hdk2 hvh hvh2 hvk hvk2 he hM hb hx x0 x1 hlr hfk hfrz
    go_wp2
    go_still (by kernel_rfl)
    obtain ⟨we,hwe⟩ : ∃ W : World,W = { heap := wr.heap,tape := wr.tape,drawn := wr.drawn + 1,os := wr.os,output := wr.output } := ⟨_,rfl⟩
    rw [← hwe]
    have hbe : Below wr.heap.size wr we := by rw [hwe];exact Below.drew (Below.refl _ _)
    have hb2 := bt hbe (Below.drew (Below.refl _ we))
    have Be2 := Lib.hid hb2
    have hk2 := Hck.out _ hb2
    have hlk2 := (Hfrz.out _ hb2).2
    clear hwe hbe hb2 c6 c9 c11 hch hck hfk2
    go_upto_region 5 with fail
    refine qat (S := (fun W : World => W.cell? ⟨k.gc,6,none⟩ = some (.slice (some ⟨gk,0,none⟩) C ck) ∧ W.cell? ⟨k.gc,9,none⟩ = some (.slice (some ⟨gh,0,none⟩) C ch) ∧ W.cell? ⟨k.gc,11,none⟩ = some (.int .i64 q) ∧ W.cell? ⟨gh,x,none⟩ = some (.int .i64 hh))) (L := []) (by kernel_rfl) (HS.out _ Be2.out) (fun hHeld => ?_)
    refine tk 0 ?_ rfl hHeld ?_ ?_;rotate_left
    ·intro w hSw;(try dsimp only at hSw);go_simp;try (with_reducible rfl)
    (try simp only [la,lb,lc,ld,lf,lg,lh])
    refine tk 1 ?_ rfl hHeld ?_ ?_;rotate_left
    ·intro w hSw;(try dsimp only at hSw);go_simp;try (with_reducible rfl)
    (try simp only [la,lb,lc,ld,lf,lg,lh])
    refine tk 2 ?_ rfl hHeld ?_ ?_;rotate_left
    ·intro w hSw;(try dsimp only at hSw);go_simp;try (with_reducible rfl)
    (try simp only [la,lb,lc,ld,lf,lg,lh])
    refine tk 3 ?_ rfl hHeld ?_ ?_;rotate_left
    ·intro w hSw;(try dsimp only at hSw);go_simp;try (with_reducible rfl)
    (try simp only [la,lb,lc,ld,lf,lg,lh])
    refine tk 4 ?_ rfl hHeld ?_ ?_;rotate_left
    ·intro w hSw;(try dsimp only at hSw);go_simp;try (with_reducible rfl)
    (try simp only [la,lb,lc,ld,lf,lg,lh])
    refine tk 5 ?_ rfl hHeld ?_ ?_;rotate_left
    ·intro w hSw;(try dsimp only at hSw);go_simp;try (with_reducible rfl)
    (try simp only [la,lb,lc,ld,lf,lg,lh])
    refine tk 6 ?_ rfl hHeld ?_ ?_;rotate_left
    ·intro w hSw;(try dsimp only at hSw);go_simp;try (with_reducible rfl)
    (try simp only [la,lb,lc,ld,lf,lg,lh])
    refine tk 7 ?_ rfl hHeld ?_ ?_;rotate_left
    ·intro w hSw;(try dsimp only at hSw);go_simp;try (with_reducible rfl)
    (try simp only [la,lb,lc,ld,lf,lg,lh])
    refine tk 8 ?_ rfl hHeld ?_ ?_;rotate_left
    ·intro w hSw;(try dsimp only at hSw);go_simp;try (with_reducible rfl)
    (try simp only [la,lb,lc,ld,lf,lg,lh])
    refine tk 9 ?_ rfl hHeld ?_ ?_;rotate_left
    ·intro w hSw;(try dsimp only at hSw);go_simp;try (with_reducible rfl)
    (try simp only [la,lb,lc,ld,lf,lg,lh])
    refine tk 10 ?_ rfl hHeld ?_ ?_;rotate_left
    ·intro w hSw;(try dsimp only at hSw);go_simp;try (with_reducible rfl)
    (try simp only [la,lb,lc,ld,lf,lg,lh])
    refine tk 12 ?_ rfl hHeld ?_ ?_;rotate_left
    ·intro w hSw;(try dsimp only at hSw);go_simp;try (with_reducible rfl)
    (try simp only [la,lb,lc,ld,lf,lg,lh])
    refine tk 13 ?_ rfl hHeld ?_ ?_;rotate_left
    ·intro w hSw;(try dsimp only at hSw);go_simp;try (with_reducible rfl)
    (try simp only [la,lb,lc,ld,lf,lg,lh])
    refine tk 14 ?_ rfl hHeld ?_ ?_;rotate_left
    ·intro w hSw;(try dsimp only at hSw);go_simp;try (with_reducible rfl)
    (try simp only [la,lb,lc,ld,lf,lg,lh])
    refine tk 15 ?_ rfl hHeld ?_ ?_;rotate_left
    ·intro w hSw;(try dsimp only at hSw);go_simp;try (with_reducible rfl)
    (try simp only [la,lb,lc,ld,lf,lg,lh])
    refine tk 16 ?_ rfl hHeld ?_ ?_;rotate_left
    ·intro w hSw;(try dsimp only at hSw);go_simp;try (with_reducible rfl)
    (try simp only [la,lb,lc,ld,lf,lg,lh])
    refine tk 17 ?_ rfl hHeld ?_ ?_;rotate_left
    ·intro w hSw;(try dsimp only at hSw);go_simp;try (with_reducible rfl)
    (try simp only [la,lb,lc,ld,lf,lg,lh])
    refine tk 18 ?_ rfl hHeld ?_ ?_;rotate_left
    ·intro w hSw;(try dsimp only at hSw);go_simp;try (with_reducible rfl)
    (try simp only [la,lb,lc,ld,lf,lg,lh])
    refine tk 19 ?_ rfl hHeld ?_ ?_;rotate_left
    ·intro w hSw;(try dsimp only at hSw);go_simp;try (with_reducible rfl)
    (try simp only [la,lb,lc,ld,lf,lg,lh])
    refine tk 20 ?_ rfl hHeld ?_ ?_;rotate_left
    ·intro w hSw;(try dsimp only at hSw);go_simp;try (with_reducible rfl)
    (try simp only [la,lb,lc,ld,lf,lg,lh])
    refine tk 21 ?_ rfl hHeld ?_ ?_;rotate_left
    ·intro w hSw;(try dsimp only at hSw);go_simp;try (with_reducible rfl)
    (try simp only [la,lb,lc,ld,lf,lg,lh])
    refine tk 22 ?_ rfl hHeld ?_ ?_;rotate_left
    ·intro w hSw;(try dsimp only at hSw);go_simp;try (with_reducible rfl)
    (try simp only [la,lb,lc,ld,lf,lg,lh])
    refine qa9 (i := 11) (by kernel_rfl) rfl (fun K hK => ?_)
    go_simp
    refine hK.out _ _ (HS.out _ Be2.out) (fun hHeld => ?_)
    clear hK K
    (try simp only [la,lb,lc,ld,lf,lg,lh])
    refine qa9 (i := 23) (by kernel_rfl) rfl (fun K hK => ?_)
    (go_simp;go_at_call 37;refine (HKW.out _).mono ?_;rintro e w5 ⟨rfl,b5⟩;have B5 := Lib.hid (bt Be2.out b5);have f5 := (Hfrz.out _ B5.out).1;have l5 := (Hfrz.out _ B5.out).2;have k5 := Hck.out _ B5.out;clear b5)
    refine hK.out _ _ (HS.out _ B5.out) (fun hHeld => ?_)
    clear hK K
    (try simp only [la,lb,lc,ld,lf,lg,lh])
    refine tk 24 ?_ rfl hHeld ?_ ?_;rotate_left
    ·intro w hSw;(try dsimp only at hSw);go_simp;try (with_reducible rfl)
    (try simp only [la,lb,lc,ld,lf,lg,lh])
    refine tk 25 ?_ rfl hHeld ?_ ?_;rotate_left
    ·intro w hSw;(try dsimp only at hSw);go_simp;try (with_reducible rfl)
    (try simp only [la,lb,lc,ld,lf,lg,lh])
    refine tk 26 ?_ rfl hHeld ?_ ?_;rotate_left
    ·intro w hSw;(try dsimp only at hSw);go_simp;try (with_reducible rfl)
    (try simp only [la,lb,lc,ld,lf,lg,lh])
    refine tk 27 ?_ rfl hHeld ?_ ?_;rotate_left
    ·intro w hSw;(try dsimp only at hSw);go_simp;try (with_reducible rfl)
    (try simp only [la,lb,lc,ld,lf,lg,lh])
    refine qa9 (i := 28) (by kernel_rfl) rfl (fun K hK => ?_)
    go_simp
    refine hK.out _ _ (HSf.out _ B5.out) (fun hHeld => ?_)
    clear hK K
    (try simp only [la,lb,lc,ld,lf,lg,lh])
    refine qam (by kernel_rfl) ?_ _
    obtain ⟨m6,b6⟩ := Hfin.out _ B5.out
    have M6 := Lib.hid m6;have B6 := Lib.hid b6
    clear m6 b6 f5 l5 k5
    go_wp2
    exact ⟨⟨j + 1,by omega,by go_num,M6,B6⟩,by simp [intOf];omega⟩
   ·have hdg : decide (hh > q) = false := decide_eq_false hgt
    have hsk := hskip hgt
    have hM2 := HMd.out
    rw [← hsk] at hM2
    have HM2 := Lib.hid hM2
    clear hset hskip hbk hS hck2 hst hsk hM2 hhe hke hqe hgh hgk hd hd2 hdh hdh2 hdk hdk2 hvh hvh2 hvk hvk2 he hM hb hx x0 x1 hlr hfk
    go_wp2
    go_still (by kernel_rfl)
    go_wp2
    exact ⟨⟨j + 1,by omega,by go_num,HM2,Hbd⟩,by simp [intOf];omega⟩
  ·obtain rfl : m = j := by omega
   go_wp2
   go_ret
   exact ⟨rfl,⟨_,hM.out⟩,hb.out⟩
end

section
open Go Go.RowKit Go.Shelf Limb

set_option maxHeartbeats 1000000 in
theorem meeTold (S : Nat → Prop) (v : Value) (l : List Int) (w : World) (h : RInts S w v l) (hl : l.length ≤ 1000000) (hn : ∀ x ∈ l,0 ≤ x ∧ x ≤ 1000000000000000) :
  Calls Tryz.prog 88 #[v] w (GivesR (l.map bill) w) := by
 obtain ⟨a,cap,rfl,h1,h2⟩ := RSl.shape h
 have hH := fun W (hW : Below w.heap.size w W) => h.same (.of_below hW)
 have HH := Lib.hid hH;have Hn := Lib.hid hn
 clear hH h hn
 go_enter Tryz.func88,Tryz.ntmps88
 go_wp2
 go_loopw [2,4,5,6,9] (fun s _ _ _ i wr => ∃ k : Nat,k ≤ l.length ∧ i = .int .i64 k ∧ Hid (OwnX w.heap.size 56 3 dRt wr s ((l.take k).map bill)) ∧ Below w.heap.size w wr) (fun _ _ _ _ i _ => l.length - (intOf i).toNat)
 case atStart => exact ⟨0,Nat.zero_le _,rfl,Lib.hid (OwnX.nil _ _ _ _ _),Below.refl _ _⟩
 case round =>
  obtain ⟨k,hk,rfl,hO,hb⟩ := hrel
  obtain ⟨ao,co,hso⟩ := hO.out.shape
  obtain ⟨m,hm⟩ : ∃ m,((l.take k).map bill).length = m := ⟨_,rfl⟩
  rw [hm] at hso
  subst hso
  have hz := hb.size
  by_cases hlt : k < l.length
  ·obtain ⟨b, off, c, rfl, hS, hbw, hc, hx⟩ := RSl.at1 (HH.out wr hb) k hlt
   obtain ⟨rfl,hwf⟩ := hx.open
   obtain ⟨hx0,hx1⟩ := Hn.out _ (List.getElem_mem hlt)
   have hst : (l.take (k + 1)).map bill = (l.take k).map bill ++ [bill l[k]] := by rw [List.take_succ_eq_append_getElem hlt,List.map_append];rfl
   obtain ⟨n,hnx⟩ : ∃ n : Nat,l[k] = (n : Int) := ⟨l[k].toNat,by omega⟩
   rw [hnx] at hc hst hx1
   have hcall := quoRatio n wr (by omega)
   have hml : ((l.take k).map bill).length ≤ 1000000 := by rw [List.length_map,List.length_take];omega
   have hD : ∀ w1 a1 m1 c1 a2 m2 c2,Below wr.heap.size wr w1 → RU (From wr.heap.size) w1 (.slice a1 m1 c1) (bill n).num → RU (From wr.heap.size) w1 (.slice a2 m2 c2) (bill n).den → dRt (Rg w.heap.size (w1.alloc (.cells #[.bool false,.slice a1 m1 c1,.slice a2 m2 c2] 56)) (.slice ao m co)) (w1.alloc (.cells #[.bool false,.slice a1 m1 c1,.slice a2 m2 c2] 56)) [.bool false,.slice a1 m1 c1,.slice a2 m2 c2] (bill n) := fun w1 a1 m1 c1 a2 m2 c2 hb1 k1 k2 => by
    have hS : ∀ b,Cut (From wr.heap.size) w1.heap.size b → Rg w.heap.size (w1.alloc (.cells #[.bool false,.slice a1 m1 c1,.slice a2 m2 c2] 56)) (.slice ao m co) b := fun b hb' => ⟨Nat.le_trans hz hb'.1,Nat.lt_of_lt_of_le hb'.2 (qa1 w1 _).size,fun e => by have := (Own.lt hO.out b e.symm).2;have := hb'.1;simp only [From] at this;omega⟩
    exact ⟨_,_,by rw [bill_nat],(RU.mono hS k1.cut).below (qa1 _ _),(RU.mono hS k2.cut).below (qa1 _ _)⟩
   have hOw : ∀ w1 a1 m1 c1 a2 m2 c2,Below wr.heap.size wr w1 → OwnX w.heap.size 56 3 dRt (w1.alloc (.cells #[.bool false,.slice a1 m1 c1,.slice a2 m2 c2] 56)) (.slice ao m co) ((l.take k).map bill) ∧ Below w.heap.size w (w1.alloc (.cells #[.bool false,.slice a1 m1 c1,.slice a2 m2 c2] 56)) ∧ w.heap.size ≤ (w1.alloc (.cells #[.bool false,.slice a1 m1 c1,.slice a2 m2 c2] 56)).heap.size := fun w1 a1 m1 c1 a2 m2 c2 hb1 =>
    ⟨OwnX.below famRt (OwnX.below famRt hO.out hb1) (qa1 _ _),bt hb (hb1.trans ((qa1 w1 _).mono hb1.size)),Nat.le_trans hz (Nat.le_trans hb1.size (qa1 w1 _).size)⟩
   have Hst := Lib.hid hst;have HC := Lib.hid hcall;have Hml := Lib.hid hml;have HD := Lib.hid hD;have HOw := Lib.hid hOw
   clear hst hcall hml hD hOw hnx hm hO
   go_wp2_with (first
    | (go_at_call 156;refine HC.out.mono ?_;rintro e w1 ⟨a1,m1,c1,a2,m2,c2,rfl,k1,k2,hb1⟩;have HD1 := Lib.hid (HD.out _ _ _ _ _ _ _ hb1 k1 k2);have HO1 := Lib.hid (HOw.out _ a1 m1 c1 a2 m2 c2 hb1);clear k1 k2 hb1)
    | (at_builtin;go_must (refine wpList_appE _ Tryz.infoRt rfl rfl Tryz.underlying53 ⟨rfl,by omega,by omega,by omega⟩ famRt w.heap.size HO1.out.1 rfl (cs := [.bool false,.slice a1 m1 c1,.slice a2 m2 c2]) rfl HD1.out (by show Value.slice _ _ _ = _;simp [go_sem]) Hml.out HO1.out.2.2 ?_);intro a3 n3 c3 w3 ho3 hb3;have Ho3 := Lib.hid ho3;have Hb3 := Lib.hid (hb3 _ _ (Nat.le_refl _) HO1.out.2.1);clear ho3 hb3))
   exact ⟨⟨k + 1,by omega,by go_num,Lib.hid (by rw [Hst.out];exact Ho3.out),Hb3.out⟩,by simp [intOf];omega⟩
  ·obtain rfl : k = l.length := by omega
   have hO2 := hO.out
   rw [List.take_length] at hO2
   have HO2 := Lib.hid hO2
   clear hO2 hO hm
   go_wp2
   go_ret
   exact ⟨_,rfl,HO2.out,hb⟩
end
end Go.Proofs.YthcbkhfmdginiaaGreat
