/- The law MeekRounds returns true whatever the input,and every argument reads behind the call as it read before. No condition. -/
import Derived.Test.YthcbkhfmdginiaaGreatRGDec
import Derived.Test.YthcbkhfmdginiaaGreatRGMeeW
import Derived.Test.YthcbkhfmdginiaaGreatRGRen
import Derived.Test.YthcbkhfmdginiaaGreatRGMeeP
import Derived.Test.YthcbkhfmdginiaaGreatRGRat2
import Derived.Test.YthcbkhfmdginiaaGreatRGSam
import Derived.Test.YthcbkhfmdginiaaGreatRGRul
import Derived.Test.YthcbkhfmdginiaaGreatRows
import Derived.StillTailTactics
import Derived.WalkKit
import Derived.ProofKit
import Derived.OpenShut
import Derived.ShutString
import Derived.ChangeOld
import Derived.Below

namespace Go.Proofs.YthcbkhfmdginiaaGreat
section
open Go Go.RowKit Go.Shelf Limb

set_option linter.unusedSimpArgs false in
set_option maxHeartbeats 4000000 in
set_option maxRecDepth 100000 in
theorem lawAlikeM (S T : Nat → Prop) (u v : Value) (H inn : List Int) (x way : Int) (C : Nat) (w : World) (hu : RRts S w u (H.map bill)) (hv : RInts T w v inn) (hC : H.length = C) (hc : C ≤ 1000) (hH : ∀ y : Nat,0 ≤ gI H y ∧ gI H y ≤ 1000000000000000) (hx : 0 ≤ x ∧ x < C)
  (hw : way = 1 ∧ (∀ y ∈ inn,gI H y ≤ gI H x) ∨ way = -1 ∧ (∀ y ∈ inn,gI H x ≤ gI H y)) :
  Calls Tryz.prog 53 #[u,v,.int .i64 x,.int .i64 way] w fun e w' => ∃ v',e = .returned (.tuple #[v',.bool true]) ∧ Own w.heap.size 3 1 (dInt .i64) w' v' (alkL C H inn x) ∧ Below w.heap.size w w' := by
 obtain ⟨a,cap,rfl,h1,h2⟩ := RSl.shape hu
 rw [List.length_map,hC] at hu h2 ⊢
 obtain ⟨n,rfl⟩ : ∃ n : Nat,x = n := ⟨x.toNat,by omega⟩
 have hnC : n < C := by omega
 obtain ⟨xb,xo,u5,l5,m5,u6,l6,m6,rfl,-,xl,x0,x1,x2,xv⟩ := ent_at hu (j := n) (by omega) (hH n).1
 obtain ⟨hn,hhn⟩ : ∃ z : Nat,gI H n = (z : Int) := ⟨(gI H n).toNat,by have := (hH n).1;omega⟩
 have hnb : hn ≤ 1000000000000000 := by have := (hH n).2;omega
 rw [hhn] at xv
 have hIn := fun (k : Nat) (W : World) (hW : Below w.heap.size w W) => in_c T v inn k W (hv.same (.of_below hW))
 have hU := fun (W : World) (hW : Below w.heap.size w W) => hu.same (.of_below hW)
 have hX := fun (W : World) (hW : Below w.heap.size w W) => And.intro ((Same.of_below (S := Any) hW).cell trivial x0) (And.intro ((Same.of_below (S := Any) hW).cell trivial x1) ((Same.of_below (S := Any) hW).cell trivial x2))
 have hway : ∀ k : Nat,hasI inn k = true → ∀ z : Nat,gI H k = (z : Int) → (cmpN z hn == way) = false := fun k hk z hz => by
  have hm := hasI_mem.1 hk
  rcases hw with ⟨rfl,h⟩ | ⟨rfl,h⟩
  ·exact cmpN_one (by have := h _ hm;omega)
  ·exact cmpN_neg (by have := h _ hm;omega)
 have HIn := Lib.hid hIn;have HU := Lib.hid hU;have HX := Lib.hid hX;have Hway := Lib.hid hway;have Hxv := Lib.hid xv;have HH := Lib.hid hH;have HC := Lib.hid hC;have Hhn := Lib.hid hhn;have Hnb := Lib.hid hnb
 clear hIn hU hX hway xv hH hC hhn hw x0 x1 x2 xl hu hv h1 hx hnb
 go_enter Tryz.func53,Tryz.ntmps53
 go_wp2
 go_loopw [10,11] (fun s i wr => ∃ k : Nat,k ≤ C ∧ i = .int .i64 k ∧ Hid (Own w.heap.size 3 1 (dInt .i64) wr s (alkL k H inn n)) ∧ Hid (Below w.heap.size w wr)) (fun _ i _ => C - (intOf i).toNat)
 case atStart => exact ⟨0,Nat.zero_le _,rfl,Lib.hid (Own.nil _ _ _ _ _),Lib.hid (Below.refl _ _)⟩
 case round =>
  obtain ⟨k,hk,rfl,hO,hb⟩ := hrel
  obtain ⟨ao,co,rfl⟩ := Own.shape hO.out
  by_cases hlt : k < C
  ·obtain ⟨hkn, hhk⟩ : ∃ z : Nat, gI H k = (z : Int) := ⟨(gI H k).toNat, by have := (HH.out k).1; omega⟩
   obtain ⟨b2,o2,u3,l3,m3,u4,l4,m4,e2,-,kl,k0,k1,k2,kv⟩ := ent_at (HU.out wr hb.out) (j := k) (by rw [HC.out];exact hlt) (HH.out k).1
   simp only [Option.some.injEq,Addr.mk.injEq,and_true] at e2
   obtain ⟨rfl,rfl⟩ := e2
   obtain ⟨x0,x1,x2⟩ := HX.out wr hb.out
   have hkb : hkn ≤ 1000000000000000 := by have := (HH.out k).2;omega
   rw [hhk] at kv
   have hS6 : ∀ W : World,Below wr.heap.size wr W → (fun W : World => W.cell? ⟨xb,xo + k * 3,none⟩ = some (.bool false) ∧ W.cell? ⟨xb,xo + k * 3 + 1,none⟩ = some (.slice u3 l3 m3) ∧ W.cell? ⟨xb,xo + k * 3 + 2,none⟩ = some (.slice u4 l4 m4) ∧ W.cell? ⟨xb,xo + n * 3,none⟩ = some (.bool false) ∧ W.cell? ⟨xb,xo + n * 3 + 1,none⟩ = some (.slice u5 l5 m5) ∧ W.cell? ⟨xb,xo + n * 3 + 2,none⟩ = some (.slice u6 l6 m6)) W := fun W hW => by
    have hs := Same.of_below (S := Any) hW
    exact ⟨hs.cell trivial k0,hs.cell trivial k1,hs.cell trivial k2,hs.cell trivial x0,hs.cell trivial x1,hs.cell trivial x2⟩
   have hcall := HIn.out k wr hb.out
   obtain ⟨b0,hb0⟩ : ∃ b0,hasI inn (k : Int) = b0 := ⟨_,rfl⟩
   rw [hb0] at hcall
   have hst := alk_step (H := H) (x := (n : Int)) hb0
   have hwk := Hway.out k
   rw [hb0] at hwk
   have hCmp := fun (W : World) (hW : Below wr.heap.size wr W) => r4CmpB Any Any (.agg #[.bool false,.slice u3 l3 m3,.slice u4 l4 m4]) (.agg #[.bool false,.slice u5 l5 m5,.slice u6 l6 m6]) hkn hn W (kv.same (.of_below hW)) (Hxv.out.same (.of_below (bt hb.out hW))) (by omega) (by have := Hnb.out;omega)
   have hce := cmpN_eq (a := hkn) (b := hn)
   have hde : decide (gI H k = gI H n) = decide (hkn = hn) := by rw [hhk,Hhn.out];exact decide_eq_decide.2 ⟨fun h => by omega,fun h => by omega⟩
   have hwk2 := fun hb => hwk hb hkn hhk
   rw [hde] at hst
   obtain ⟨cn,hcn⟩ : ∃ c,cmpN hkn hn = c := ⟨_,rfl⟩
   obtain ⟨be,hbe⟩ : ∃ c,decide (hkn = hn) = c := ⟨_,rfl⟩
   rw [hcn,hbe] at hce
   rw [hbe] at hst
   rw [hcn] at hwk2
   simp only [hcn] at hCmp
   have hsl : (alkL k H inn n).length ≤ 1000000 := by rw [alkL];exact Nat.le_trans (List.length_filter_le _ _) (by rw [qar];omega)
   have hwf : (Lit.int .i64 (k : Int)).wf = true := WalkArith.wf_i64 (by omega)
   have Hsl := Lib.hid hsl;have Hwf := Lib.hid hwf;have HS6 := Lib.hid hS6;have Hcall := Lib.hid hcall;have Hst := Lib.hid hst;have Hwk := Lib.hid hwk2;have HCmp := Lib.hid hCmp
   clear hsl hwf hS6 hcall hst hwk hwk2 hCmp hde hbe hcn kv kl k0 k1 k2 x0 x1 x2 hhk hb0 hkb
   cases b0 with
   | false =>
    go_wp2_with (go_at_call 39;refine Hcall.out.mono ?_;rintro e w1 ⟨rfl,hb1⟩;have Hb1 := Lib.hid (bt hb.out hb1);have Ho1 := Lib.hid (Own.below (S := fun _ => False) (dInt.stable _ _) hO.out hb1);clear hb1)
    exact ⟨⟨k + 1,by omega,by go_num,Lib.hid (by rw [Hst.out];simpa using Ho1.out),Hb1⟩,by simp [intOf];omega⟩
   | true =>
    have hw1 := Hwk.out rfl
    go_upto_region 6 with (go_at_call 39;refine Hcall.out.mono ?_;rintro e w1 ⟨rfl,hb1⟩;have Hb1 := Lib.hid hb1;clear hb1)
    refine qat (S := (fun W : World => W.cell? ⟨xb,xo + k * 3,none⟩ = some (.bool false) ∧ W.cell? ⟨xb,xo + k * 3 + 1,none⟩ = some (.slice u3 l3 m3) ∧ W.cell? ⟨xb,xo + k * 3 + 2,none⟩ = some (.slice u4 l4 m4) ∧ W.cell? ⟨xb,xo + n * 3,none⟩ = some (.bool false) ∧ W.cell? ⟨xb,xo + n * 3 + 1,none⟩ = some (.slice u5 l5 m5) ∧ W.cell? ⟨xb,xo + n * 3 + 2,none⟩ = some (.slice u6 l6 m6))) (L := []) (by kernel_rfl) (HS6.out _ (bt Hb1.out (Below.drew (Below.refl _ w1)))) (fun hHeld => ?_)
    refine tk 0 ?_ rfl hHeld ?_ ?_;rotate_left
    ·intro w hSw;(try dsimp only at hSw);go_simp;try (with_reducible rfl)
    (try simp only [la,lb,lc,ld,lf,lg,lh])
    refine tk 1 ?_ rfl hHeld ?_ ?_;rotate_left
    ·intro w hSw;(try dsimp only at hSw);go_simp;try (with_reducible rfl)
    (try simp only [la,lb,lc,ld,lf,lg,lh])
    refine tk 2 ?_ rfl hHeld ?_ ?_;rotate_left
    ·intro w hSw;(try dsimp only at hSw);go_simp;try (with_reducible rfl)
    (try simp only [la,lb,lc,ld,lf,lg,lh])
    refine tk 3 ?_ rfl hHeld ?_ ?_;rotate_left
    ·intro w hSw;(try dsimp only at hSw);go_simp;try (with_reducible rfl)
    (try simp only [la,lb,lc,ld,lf,lg,lh])
    refine tk 4 ?_ rfl hHeld ?_ ?_;rotate_left
    ·intro w hSw;(try dsimp only at hSw);go_simp;try (with_reducible rfl)
    (try simp only [la,lb,lc,ld,lf,lg,lh])
    refine tk 5 ?_ rfl hHeld ?_ ?_;rotate_left
    ·intro w hSw;(try dsimp only at hSw);go_simp;try (with_reducible rfl)
    (try simp only [la,lb,lc,ld,lf,lg,lh])
    refine tk 6 ?_ rfl hHeld ?_ ?_;rotate_left
    ·intro w hSw;(try dsimp only at hSw);go_simp;try (with_reducible rfl)
    (try simp only [la,lb,lc,ld,lf,lg,lh])
    refine tk 7 ?_ rfl hHeld ?_ ?_;rotate_left
    ·intro w hSw;(try dsimp only at hSw);go_simp;try (with_reducible rfl)
    (try simp only [la,lb,lc,ld,lf,lg,lh])
    refine qa9 (i := 8) (by kernel_rfl) rfl (fun K hK => ?_)
    (go_simp;go_at_call 49;refine (HCmp.out _ (bt Hb1.out (Below.drew (Below.refl _ w1)))).mono ?_;rintro e w2 ⟨rfl,hb2⟩;have Hb2 := Lib.hid (bt Hb1.out (bt (Below.drew (Below.refl _ w1)) hb2));clear hb2)
    refine hK.out _ _ (HS6.out _ Hb2.out) (fun hHeld => ?_)
    clear hK K
    (try simp only [la,lb,lc,ld,lf,lg,lh])
    refine tk 9 ?_ rfl hHeld ?_ ?_;rotate_left
    ·intro w hSw;(try dsimp only at hSw);go_simp;try (with_reducible rfl)
    (try simp only [la,lb,lc,ld,lf,lg,lh])
    refine tk 10 ?_ rfl hHeld ?_ ?_;rotate_left
    ·intro w hSw;(try dsimp only at hSw);go_simp;try (with_reducible rfl)
    (try simp only [la,lb,lc,ld,lf,lg,lh])
    refine tk 11 ?_ rfl hHeld ?_ ?_;rotate_left
    ·intro w hSw;(try dsimp only at hSw);go_simp;try (with_reducible rfl)
    (try simp only [la,lb,lc,ld,lf,lg,lh])
    refine tk 12 ?_ rfl hHeld ?_ ?_;rotate_left
    ·intro w hSw;(try dsimp only at hSw);go_simp;try (with_reducible rfl)
    (try simp only [la,lb,lc,ld,lf,lg,lh])
    refine tk 13 ?_ rfl hHeld ?_ ?_;rotate_left
    ·intro w hSw;(try dsimp only at hSw);go_simp;try (with_reducible rfl)
    (try simp only [la,lb,lc,ld,lf,lg,lh])
    refine qam (by kernel_rfl) ?_ _
    have Ho2 := Lib.hid (Own.below (S := fun _ => False) (dInt.stable _ _) hO.out Hb2.out)
    have Hbb := Lib.hid (bt hb.out Hb2.out)
    have hz2 := Hbb.out.size
    have hst := Hst.out
    clear Hst
    cases be with
    | false =>
     have Hst := Lib.hid hst;clear hst
     go_wp2_with fail
     exact ⟨⟨k + 1,by omega,by go_num,Lib.hid (by rw [Hst.out];simpa using Ho2.out),Hbb⟩,by simp [intOf];omega⟩
    | true =>
     have Hst := Lib.hid hst;clear hst
     go_wp2_with (at_builtin;go_must (refine wpList_appI w2 Tryz.infoInt rfl rfl Tryz.underlying25 w.heap.size Ho2.out rfl rfl Hwf.out Hsl.out hz2 ?_);intro a3 n3 c3 w3 ho3 hb3;have Ho3 := Lib.hid ho3;have Hb3 := Lib.hid (hb3 _ _ (Nat.le_refl _) Hbb.out);clear ho3 hb3)
     exact ⟨⟨k + 1,by omega,by go_num,Lib.hid (by rw [Hst.out];simpa using Ho3.out),Hb3⟩,by simp [intOf];omega⟩
  ·obtain rfl : k = C := by omega
   go_wp2
   go_ret2
   exact ⟨_,rfl,hO.out,hb.out⟩
end

section

section
variable {p : Prof} {seats : Int} {lot : List Int} {C sn : Nat}
theorem mee_rounds (h : RankF p seats lot C sn) : meeS p sn lot (meeS p sn lot C).rounds.length = meeS p sn lot C := by
 have hC : p.cands.toNat = C := by rw [h.cands,Int.toNat_natCast]
 unfold meeS
 rw [hC]
 exact run_rounds h.lot h.s.2
theorem decM (h : RankF p seats lot C sn) {i : Nat} (hi : i < (meeS p sn lot C).rounds.length) :
  DecR C (mHad p sn lot C i) lot (meeS p sn lot i).inn (meeS p sn lot i).ties (sn - (meeS p sn lot i).el.length) (mQuo p sn lot C i) (meeS p sn lot C).rounds[i] (meeS p sn lot (i + 1)).inn (meeS p sn lot (i + 1)).ties (sn - (meeS p sn lot (i + 1)).el.length) := by
 obtain ⟨r1,r2,r3⟩ := meeS_round h hi
 have hI := meeS_sq h i
 have hI2 := meeS_sq h (i + 1)
 have hst := meeS_step h r1
 obtain ⟨r,q1,q2⟩ := step_d (R := meeR C sn p.rows) h.lot hI r1
 rw [← hst] at q1 q2
 obtain rfl : r = (meeS p sn lot C).rounds[i] := by
  rw [q1] at r3
  exact List.singleton_inj.1 (List.append_cancel_left r3)
 have hrw : (meeS p sn lot i).reach (meeR C sn p.rows) = (meeS p sn lot i).inn.any fun x => decide (mQuo p sn lot C i ≤ gI (mHad p sn lot C i) x) := rfl
 have hhd : (meeS p sn lot i).had (meeR C sn p.rows) = mHad p sn lot C i := rfl
 refine DecR.of hI r1 q2 (qae _ _) (fun hr => ?_) (fun hr y hy => ?_) hI2.most
 ·rw [hrw] at hr
  obtain ⟨y,hy,hq⟩ := List.any_eq_true.1 hr
  have hq := of_decide_eq_true hq
  rw [hhd]
  have hb : (meeS p sn lot i).best (meeR C sn p.rows) = bestL (gI (mHad p sn lot C i)) (meeS p sn lot i).inn := rfl
  rw [hb]
  obtain ⟨x0,hx0⟩ := List.exists_mem_of_ne_nil _ (bestL_ne (f := gI (mHad p sn lot C i)) (hI.ne r1))
  have k1 := (qaw (lot := lot) ⟨x0,(h.lot.all _).2 (hI.rng _ (qak.1 hx0).1),hx0⟩).1
  have := (qak.1 k1).2 y hy
  omega
 ·rw [hrw] at hr
  have := of_decide_eq_false (Bool.eq_false_iff.2 (List.any_eq_false.1 hr y hy))
  rw [hhd]
  omega
end
end

section
open Go Go.RowKit Go.Shelf Limb

theorem pos_natB {w : World} {v1 v2 : Value} {n : Nat} (h1 : NumAt w v1 n) (h2 : NumAt w v2 1) (hl : n < 9223372036854775808) : Pos w v1 v2 n 1 := by
 have := qb9 hl
 have e1 := lim1
 exact ⟨h1,h2,by rw [e1];exact chk_whole hl,by omega,by rw [e1];decide,by omega⟩
def MulB (wr : World) (P Q : Nat) (s1 s2 : Value) (wc : World) : Prop := ∃ g a c a' c',s1 = .pointer (some ⟨g,0,none⟩) ∧ s2 = .int .i64 0 ∧ wc.heap[g]? = some (.cells #[.bool false,.slice a (lim P).length c,.slice a' (lim Q).length c'] 56 (0,0)) ∧
 NumAt wc (.slice a (lim P).length c) P ∧ NumAt wc (.slice a' (lim Q).length c') Q ∧ Below wr.heap.size wr wc
theorem MulB.late {wr w4 : World} {P Q : Nat} {a a' : Option Addr} {c c' : Nat} (k1 : RU Any w4 (.slice a (lim P).length c) (lim P)) (k2 : RU Any w4 (.slice a' (lim Q).length c') (lim Q)) (hb : Below wr.heap.size wr w4) :
  MulB wr P Q (.pointer (some ⟨w4.heap.size,0,none⟩)) (.int .i64 0) ((((w4.alloc (.cells #[.bool false,.slice none 0 0,.slice none 0 0] 56)).setCell ⟨w4.heap.size,0,none⟩ (.bool false)).setCell ⟨w4.heap.size,1,none⟩ (.slice a (lim P).length c)).setCell ⟨w4.heap.size,2,none⟩ (.slice a' (lim Q).length c')) := by
 have hb2 := qa1 w4 (.cells #[.bool false,.slice none 0 0,.slice none 0 0] 56)
 have hg := qa8 w4 (.cells #[.bool false,.slice none 0 0,.slice none 0 0] 56)
 have hb3 : Below w4.heap.size w4 ((((w4.alloc (.cells #[.bool false,.slice none 0 0,.slice none 0 0] 56)).setCell ⟨w4.heap.size,0,none⟩ (.bool false)).setCell ⟨w4.heap.size,1,none⟩ (.slice a (lim P).length c)).setCell ⟨w4.heap.size,2,none⟩ (.slice a' (lim Q).length c')) :=
  ((hb2.setCell (p := ⟨w4.heap.size,0,none⟩) (Nat.le_refl _) _).setCell (p := ⟨w4.heap.size,1,none⟩) (Nat.le_refl _) _).setCell (p := ⟨w4.heap.size,2,none⟩) (Nat.le_refl _) _
 exact ⟨_,_,_,_,_,rfl,rfl,by have := qa2 (o := 2) (qa2 (o := 1) (qa2 (o := 0) hg (.bool false)) (.slice a (lim P).length c)) (.slice a' (lim Q).length c');simpa using this,NumAt.of (RU.below k1 hb3),NumAt.of (RU.below k2 hb3),bt hb hb3⟩
theorem MulB.laid {wr w4 : World} {P Q : Nat} {a a' : Option Addr} {c c' : Nat} (k1 : RU Any w4 (.slice a (lim P).length c) (lim P)) (k2 : RU Any w4 (.slice a' (lim Q).length c') (lim Q)) (hb : Below wr.heap.size wr w4) :
  MulB wr P Q (.pointer (some ⟨w4.heap.size,0,none⟩)) (.int .i64 0) (w4.alloc (.cells #[.bool false,.slice a (lim P).length c,.slice a' (lim Q).length c'] 56)) := by
 have hb2 := qa1 w4 (.cells #[.bool false,.slice a (lim P).length c,.slice a' (lim Q).length c'] 56)
 exact ⟨_,_,_,_,_,rfl,rfl,qa8 _ _,NumAt.of (RU.below k1 hb2),NumAt.of (RU.below k2 hb2),bt hb hb2⟩
theorem MulB.stored {wr w4 : World} {P Q g : Nat} {a a' : Option Addr} {c c' : Nat} (hg : w4.heap[g]? = some (.cells #[.bool false,.slice none 0 0,.slice none 0 0] 56 (0,0))) (k1 : RU Any w4 (.slice a (lim P).length c) (lim P)) (k2 : RU Any w4 (.slice a' (lim Q).length c') (lim Q)) (hb : Below wr.heap.size wr w4) (hgw : wr.heap.size ≤ g) :
  MulB wr P Q (.pointer (some ⟨g,0,none⟩)) (.int .i64 0) (((w4.setCell ⟨g,0,none⟩ (.bool false)).setCell ⟨g,1,none⟩ (.slice a (lim P).length c)).setCell ⟨g,2,none⟩ (.slice a' (lim Q).length c')) := by
 have hs : Same (fun b => b ≠ g) w4 (((w4.setCell ⟨g,0,none⟩ (.bool false)).setCell ⟨g,1,none⟩ (.slice a (lim P).length c)).setCell ⟨g,2,none⟩ (.slice a' (lim Q).length c')) := (((Same.refl _ _).setCell (p := ⟨g,0,none⟩) (by simp) _).setCell (p := ⟨g,1,none⟩) (by simp) _).setCell (p := ⟨g,2,none⟩) (by simp) _
 refine ⟨_,_,_,_,_,rfl,rfl,by have := qa2 (o := 2) (qa2 (o := 1) (qa2 (o := 0) hg (.bool false)) (.slice a (lim P).length c)) (.slice a' (lim Q).length c');simpa using this,?_,?_,((hb.setCell (p := ⟨g,0,none⟩) hgw _).setCell (p := ⟨g,1,none⟩) hgw _).setCell (p := ⟨g,2,none⟩) hgw _⟩
 ·exact NumAt.of ((k1.avoid hg (bss_ne _ _ _ (by simp) (by simp))).same hs)
 ·exact NumAt.of ((k2.avoid hg (bss_ne _ _ _ (by simp) (by simp))).same hs)
theorem bil_mul (n : Nat) : mulN (bn n) (bd n) 1000000000 1 = n ∧ mulD (bn n) (bd n) 1000000000 1 = 1 := by
 have hb := bd_pos n
 have e : bn n * 1000000000 = n * bd n := by
  have h1 := bn_mul n
  have h2 := bd_mul n
  calc bn n * 1000000000 = bn n * (bd n * Nat.gcd n 1000000000) := by rw [h2]
   _ = bn n * Nat.gcd n 1000000000 * bd n := by rw [Nat.mul_comm (bd n),Nat.mul_assoc]
   _ = n * bd n := by rw [h1]
 unfold mulN mulD
 rw [e,Nat.mul_one,Nat.gcd_eq_right (Nat.dvd_mul_left _ _)]
 exact ⟨Nat.mul_div_cancel _ hb,Nat.div_self hb⟩
set_option maxHeartbeats 8000000 in
set_option maxRecDepth 100000 in
set_option linter.unusedSimpArgs false in
theorem quoBil (S : Nat → Prop) (u : Value) (n : Nat) (w : World) (hu : VRt S w u (bill (n : Int))) (hn : n ≤ 1000000000000000) :
  Calls Tryz.prog 50 #[u] w fun e w' => e = .returned (.tuple #[.int .i64 n,.int .i64 0]) ∧ Below w.heap.size w w' := by
 have h0 := hu
 rw [bill_of] at hu
 obtain ⟨u1,u2,rfl,h1,h2⟩ := hu
 obtain ⟨a1,c1,rfl,-,-⟩ := RSl.shape h1
 obtain ⟨a2,c2,rfl,-,-⟩ := RSl.shape h2
 obtain ⟨-,hp⟩ := bill_pos (by omega) h0
 have lb := qb9 (n := bn n) (by have := bn_le n;omega)
 have ld := qb9 (n := bd n) (by have := bd_le n;omega)
 obtain ⟨W0,hW0⟩ : ∃ W0,W0 = w.alloc (.cells #[.bool false,.slice a1 (lim (bn n)).length c1,.slice a2 (lim (bd n)).length c2] 56) := ⟨_,rfl⟩
 have hb0 : Below w.heap.size w W0 := by rw [hW0];exact qa1 w _
 have g0 : W0.heap[w.heap.size]? = some (.cells #[.bool false,.slice a1 (lim (bn n)).length c1,.slice a2 (lim (bd n)).length c2] 56 (0,0)) := by rw [hW0];exact qa8 w _
 have hCk := ratCheck _ _ false _ _ _ _ W0 (RU.below h1 hb0) (RU.below h2 hb0)
 have hk : ratChk false (lim (bn n)) (lim (bd n)) = 0 := hp.ok
 rw [hk] at hCk
 obtain ⟨U,hU⟩ : ∃ U : Nat,U = 1000000000 := ⟨_,rfl⟩
 have hWh := fun W => ratWhole U W (by omega)
 unfold GivesW at hWh
 have hUi : (U : Int) = 1000000000 := by omega
 simp only [hUi] at hWh
 have f1 : (lim (bn n * U)).length ≤ 96 := Nat.le_trans (qah (k := 4) (by
  have h1 : bn n * U ≤ 1000000000000000 * 1000000000 := Nat.mul_le_mul (by have := bn_le n;omega) (by omega)
  simp only [qal,pw_zero];omega)) (by omega)
 have f3 : (lim (bd n * 1)).length ≤ 96 := by rw [Nat.mul_one];omega
 have hMu := fun W v1 v2 v3 v4 (k1 : NumAt W v1 (bn n)) (k2 : NumAt W v2 (bd n)) (k3 : NumAt W v3 U) (k4 : NumAt W v4 1) => ratMul v1 v2 v3 v4 (bn n) (bd n) U 1 W ⟨k1,k2,hp.ok,hp.l1,hp.l2,hp.pos⟩ (pos_natB k3 k4 (by omega)) f1 f3
 unfold GivesPQ at hMu
 obtain ⟨P,hPP⟩ : ∃ P,n = P := ⟨_,rfl⟩
 obtain ⟨Q,hQQ⟩ : ∃ Q : Nat,1 = Q := ⟨_,rfl⟩
 have hm1 : mulN (bn n) (bd n) U 1 = P := by rw [hU,← hPP];exact (bil_mul n).1
 have hm2 : mulD (bn n) (bd n) U 1 = Q := by rw [hU,← hQQ];exact (bil_mul n).2
 have hFl := fun W v1 v2 (k1 : NumAt W v1 P) (k2 : NumAt W v2 Q) => ratFloor v1 v2 P Q W (by rw [← hQQ] at k2 ⊢;exact pos_natB k1 k2 (by omega)) (by rw [← hQQ,Nat.div_one];omega)
 have hflz : ((P / Q : Nat) : Int) = (n : Int) := by rw [← hQQ,Nat.div_one,hPP]
 simp only [hm1,hm2] at hMu
 simp only [hflz] at hFl
 have e1L := lim1
 obtain ⟨z,hz⟩ : ∃ z : Int,(n : Int) = z := ⟨_,rfl⟩
 have hz1 : z ≤ 1000000000000000 := by omega
 obtain ⟨L1,hL1⟩ : ∃ L,(lim (bn n)).length = L := ⟨_,rfl⟩
 obtain ⟨L2,hL2⟩ : ∃ L,(lim (bd n)).length = L := ⟨_,rfl⟩
 obtain ⟨L3,hL3⟩ : ∃ L,(lim U).length = L := ⟨_,rfl⟩
 obtain ⟨N1,hN1⟩ : ∃ x,bn n = x := ⟨_,rfl⟩
 obtain ⟨N2,hN2⟩ : ∃ x,bd n = x := ⟨_,rfl⟩
 have hK1 : NumAt W0 (.slice a1 L1 c1) N1 := by rw [← hL1,← hN1];exact NumAt.of (RU.below h1 hb0)
 have hK2 : NumAt W0 (.slice a2 L2 c2) N2 := by rw [← hL2,← hN2];exact NumAt.of (RU.below h2 hb0)
 simp only [hz] at hFl ⊢
 simp only [hL1,hL2] at hCk hW0 g0 lb ld ⊢
 simp only [hN1,hN2] at hMu
 simp only [hL3] at hWh
 have l90 : ¬ 90 < L1 := by omega
 have l91 : ¬ 90 < L2 := by omega
 have l92 : ¬ (90 : Int) < L1 := by omega
 have l93 : ¬ (90 : Int) < L2 := by omega
 rw [hW0] at hCk
 have HCk := Lib.hid hCk;have HWh := Lib.hid hWh;have HMu := Lib.hid hMu;have HFl := Lib.hid hFl;have E1L := Lib.hid e1L;have HW0 := Lib.hid hW0;have G0 := Lib.hid g0;have Hb0 := Lib.hid hb0;have HK1 := Lib.hid hK1;have HK2 := Lib.hid hK2
 clear hCk hWh hMu hFl e1L hW0 g0 hb0 hK1 hK2 h0 h1 h2 hp lb ld hk hU hUi f1 f3 hPP hQQ hm1 hm2 hflz hz hL1 hL2 hL3 hN1 hN2 hn
 go_enter Tryz.func50,Tryz.ntmps50
 go_upto_region 5 with (go_at_call 106;refine HCk.out.mono ?_;rintro e w1 ⟨rfl,hb⟩;rw [← HW0.out] at hb;have B1 := Lib.hid hb;obtain ⟨p0,p1,p2,pl⟩ := box3 G0.out hb;clear hb)
 obtain ⟨X,hX⟩ : ∃ X,X = w1 := ⟨_,rfl⟩
 rw [← hX] at B1 p0 p1 p2 pl ⊢
 have K1X := Lib.hid (HK1.out.same B1.out);have K2X := Lib.hid (HK2.out.same B1.out);have BX := Lib.hid (bt Hb0.out B1.out)
 have hS0 : ∀ W,Below X.heap.size X W → W.cell? ⟨w.heap.size,0,none⟩ = some (.bool false) ∧ W.cell? ⟨w.heap.size,1,none⟩ = some (.slice a1 L1 c1) ∧ W.cell? ⟨w.heap.size,2,none⟩ = some (.slice a2 L2 c2) := fun W hW => by
  obtain ⟨j1,j2,j3,-⟩ := box3 G0.out (bt B1.out hW)
  exact ⟨j1,j2,j3⟩
 have HS0 := Lib.hid hS0
 clear hS0 hX p0 p1 p2 pl
 go_cut [4,5] from 25 to 31 (fun s17 s18 wc => MulB X P Q s17 s18 wc)
 case first =>
  refine qat (S := (fun W : World => W.cell? ⟨w.heap.size,0,none⟩ = some (.bool false) ∧ W.cell? ⟨w.heap.size,1,none⟩ = some (.slice a1 L1 c1) ∧ W.cell? ⟨w.heap.size,2,none⟩ = some (.slice a2 L2 c2))) (L := []) (by kernel_rfl) (HS0.out _ (Below.drew (Below.refl _ X))) (fun hHeld => ?_)
  refine tk 0 ?_ rfl hHeld ?_ ?_;rotate_left
  ·intro w hSw;(try dsimp only at hSw);go_simp;try (with_reducible rfl)
  (try simp only [la,lb,lc,ld,lf,lg,lh])
  refine wpAnyL_two (i := 1) (j := 6) (by kernel_rfl) rfl rfl (fun K hK => ?_) (fun K hK => ?_)
  ·
   (go_simp;go_at_call 46;refine (HWh.out _).mono ?_;rintro e w6 ⟨a3,c3,a4,c4,rfl,k3,k4,hb⟩;have B6 := Lib.hid (bt (Below.drew (Below.refl _ X)) hb);have K3 := Lib.hid (NumAt.of k3);have K4 := Lib.hid (NumAt.of (by rw [E1L.out];exact k4 : RU _ _ _ (lim 1)));clear k3 k4 hb)
   refine hK.out _ _ (HS0.out _ B6.out) (fun hHeld => ?_)
   clear hK K
   (try simp only [la,lb,lc,ld,lf,lg,lh])
   refine wpAnyL_two (i := 2) (j := 6) (by kernel_rfl) rfl rfl (fun K hK => ?_) (fun K hK => ?_)
   ·
    (go_simp;go_at_call 45;refine (HMu.out _ _ _ _ _ (K1X.out.same B6.out) (K2X.out.same B6.out) K3.out K4.out).mono ?_;rintro e w7 ⟨a5,c5,a6,c6,rfl,k5,k6,hb⟩;have B7 := Lib.hid (bt B6.out hb);have K5 := Lib.hid k5;have K6 := Lib.hid k6;clear k5 k6 hb)
    refine hK.out _ _ (HS0.out _ B7.out) (fun hHeld => ?_)
    clear hK K
    (try simp only [la,lb,lc,ld,lf,lg,lh])
    refine tk 3 ?_ rfl hHeld ?_ ?_;rotate_left
    ·intro w hSw;(try dsimp only at hSw);go_simp;try (with_reducible rfl)
    (try simp only [la,lb,lc,ld,lf,lg,lh])
    refine tk 4 ?_ rfl hHeld ?_ ?_;rotate_left
    ·intro w hSw;(try dsimp only at hSw);go_simp;try (with_reducible rfl)
    (try simp only [la,lb,lc,ld,lf,lg,lh])
    refine tk 5 ?_ rfl hHeld ?_ ?_;rotate_left
    ·intro w hSw;(try dsimp only at hSw);go_simp;try (with_reducible rfl)
    (try simp only [la,lb,lc,ld,lf,lg,lh])
    refine qa9 (i := 6) (by kernel_rfl) rfl (fun K hK => ?_)
    go_simp
    refine hK.out _ _ (HS0.out _ (bt B7.out (qa1 _ _))) (fun hHeld => ?_)
    clear hK K
    (try simp only [la,lb,lc,ld,lf,lg,lh])
    refine qa9 (i := 7) (by kernel_rfl) rfl (fun K hK => ?_)
    go_simp
    refine hK.out _ _ (HS0.out _ (bt B7.out (by first | exact qa1 _ _ | exact ((((qa1 _ _).setCell (p := ⟨w7.heap.size,0,none⟩) (Nat.le_refl _) _).setCell (p := ⟨w7.heap.size,1,none⟩) (Nat.le_refl _) _).setCell (p := ⟨w7.heap.size,2,none⟩) (Nat.le_refl _) _)))) (fun hHeld => ?_)
    clear hK K
    (try simp only [la,lb,lc,ld,lf,lg,lh])
    refine tk 8 ?_ rfl hHeld ?_ ?_;rotate_left
    ·intro w hSw;(try dsimp only at hSw);go_simp;try (with_reducible rfl)
    (try simp only [la,lb,lc,ld,lf,lg,lh])
    refine qam (by kernel_rfl) ?_ _
    go_wp2_with fail
    go_meet
    first | exact MulB.late K5.out K6.out B7.out | exact MulB.laid K5.out K6.out B7.out
   ·
    go_simp
    refine hK.out _ _ (HS0.out _ (bt B6.out (qa1 _ _))) (fun hHeld => ?_)
    clear hK K
    (try simp only [la,lb,lc,ld,lf,lg,lh])
    refine qa9 (i := 2) (by kernel_rfl) rfl (fun K hK => ?_)
    (go_simp;go_at_call 45;refine (HMu.out _ _ _ _ _ ((K1X.out.same B6.out).same (qa1 _ _)) ((K2X.out.same B6.out).same (qa1 _ _)) (K3.out.same (qa1 _ _)) (K4.out.same (qa1 _ _))).mono ?_;rintro e w7 ⟨a5,c5,a6,c6,rfl,k5,k6,hb⟩;have T7 := Lib.hid hb;have B7 := Lib.hid (bt (bt B6.out (qa1 w6 (.cells #[.bool false,.slice none 0 0,.slice none 0 0] 56))) hb);have K5 := Lib.hid k5;have K6 := Lib.hid k6;clear k5 k6 hb)
    refine hK.out _ _ (HS0.out _ B7.out) (fun hHeld => ?_)
    clear hK K
    (try simp only [la,lb,lc,ld,lf,lg,lh])
    refine tk 3 ?_ rfl hHeld ?_ ?_;rotate_left
    ·intro w hSw;(try dsimp only at hSw);go_simp;try (with_reducible rfl)
    (try simp only [la,lb,lc,ld,lf,lg,lh])
    refine tk 4 ?_ rfl hHeld ?_ ?_;rotate_left
    ·intro w hSw;(try dsimp only at hSw);go_simp;try (with_reducible rfl)
    (try simp only [la,lb,lc,ld,lf,lg,lh])
    refine tk 5 ?_ rfl hHeld ?_ ?_;rotate_left
    ·intro w hSw;(try dsimp only at hSw);go_simp;try (with_reducible rfl)
    (try simp only [la,lb,lc,ld,lf,lg,lh])
    have gA := Lib.hid (qax T7.out (qa8 w6 (.cells #[.bool false,.slice none 0 0,.slice none 0 0] 56)))
    obtain ⟨-,zA,fA⟩ := qa6 (Below.refl _ w7) (qa0 gA.out) gA.out
    have zA0 := zA 0;have zA1 := zA 1;have zA2 := zA 2;have fA0 := fA 0;have fA1 := fA 1;have fA2 := fA 2
    clear zA fA
    refine qa9 (i := 7) (by kernel_rfl) rfl (fun K hK => ?_)
    go_simp
    refine hK.out _ _ (HS0.out _ (((B7.out.setCell (p := ⟨w6.heap.size,0,none⟩) B6.out.size _).setCell (p := ⟨w6.heap.size,1,none⟩) B6.out.size _).setCell (p := ⟨w6.heap.size,2,none⟩) B6.out.size _)) (fun hHeld => ?_)
    clear hK K
    (try simp only [la,lb,lc,ld,lf,lg,lh])
    refine tk 8 ?_ rfl hHeld ?_ ?_;rotate_left
    ·intro w hSw;(try dsimp only at hSw);go_simp;try (with_reducible rfl)
    (try simp only [la,lb,lc,ld,lf,lg,lh])
    refine qam (by kernel_rfl) ?_ _
    go_wp2_with fail
    go_meet
    exact MulB.stored gA.out K5.out K6.out B7.out B6.out.size
  ·
   go_simp
   refine hK.out _ _ (HS0.out _ (qa1 X (.cells #[.bool false,.slice none 0 0,.slice none 0 0] 56)).drew) (fun hHeld => ?_)
   clear hK K
   (try simp only [la,lb,lc,ld,lf,lg,lh])
   refine qa9 (i := 1) (by kernel_rfl) rfl (fun K hK => ?_)
   (go_simp;go_at_call 46;refine (HWh.out _).mono ?_;rintro e w6 ⟨a3,c3,a4,c4,rfl,k3,k4,hb⟩;have T6 := Lib.hid hb;have B6 := Lib.hid (bt (qa1 X (.cells #[.bool false,.slice none 0 0,.slice none 0 0] 56)).drew hb);have K3 := Lib.hid (NumAt.of k3);have K4 := Lib.hid (NumAt.of (by rw [E1L.out];exact k4 : RU _ _ _ (lim 1)));clear k3 k4 hb)
   refine hK.out _ _ (HS0.out _ B6.out) (fun hHeld => ?_)
   clear hK K
   (try simp only [la,lb,lc,ld,lf,lg,lh])
   refine qa9 (i := 2) (by kernel_rfl) rfl (fun K hK => ?_)
   (go_simp;go_at_call 45;refine (HMu.out _ _ _ _ _ (K1X.out.same B6.out) (K2X.out.same B6.out) K3.out K4.out).mono ?_;rintro e w7 ⟨a5,c5,a6,c6,rfl,k5,k6,hb⟩;have T7 := Lib.hid hb;have B7 := Lib.hid (bt B6.out hb);have K5 := Lib.hid k5;have K6 := Lib.hid k6;clear k5 k6 hb)
   refine hK.out _ _ (HS0.out _ B7.out) (fun hHeld => ?_)
   clear hK K
   (try simp only [la,lb,lc,ld,lf,lg,lh])
   refine tk 3 ?_ rfl hHeld ?_ ?_;rotate_left
   ·intro w hSw;(try dsimp only at hSw);go_simp;try (with_reducible rfl)
   (try simp only [la,lb,lc,ld,lf,lg,lh])
   refine tk 4 ?_ rfl hHeld ?_ ?_;rotate_left
   ·intro w hSw;(try dsimp only at hSw);go_simp;try (with_reducible rfl)
   (try simp only [la,lb,lc,ld,lf,lg,lh])
   refine tk 5 ?_ rfl hHeld ?_ ?_;rotate_left
   ·intro w hSw;(try dsimp only at hSw);go_simp;try (with_reducible rfl)
   (try simp only [la,lb,lc,ld,lf,lg,lh])
   have gA := Lib.hid ((bt T6.out T7.out).block _ (by simp) |>.trans (qa8 X (.cells #[.bool false,.slice none 0 0,.slice none 0 0] 56)))
   obtain ⟨-,zA,fA⟩ := qa6 (Below.refl _ w7) (qa0 gA.out) gA.out
   have zA0 := zA 0;have zA1 := zA 1;have zA2 := zA 2;have fA0 := fA 0;have fA1 := fA 1;have fA2 := fA 2
   clear zA fA
   refine qa9 (i := 7) (by kernel_rfl) rfl (fun K hK => ?_)
   go_simp
   refine hK.out _ _ (HS0.out _ (((B7.out.setCell (p := ⟨X.heap.size,0,none⟩) (Nat.le_refl _) _).setCell (p := ⟨X.heap.size,1,none⟩) (Nat.le_refl _) _).setCell (p := ⟨X.heap.size,2,none⟩) (Nat.le_refl _) _)) (fun hHeld => ?_)
   clear hK K
   (try simp only [la,lb,lc,ld,lf,lg,lh])
   refine tk 8 ?_ rfl hHeld ?_ ?_;rotate_left
   ·intro w hSw;(try dsimp only at hSw);go_simp;try (with_reducible rfl)
   (try simp only [la,lb,lc,ld,lf,lg,lh])
   refine qam (by kernel_rfl) ?_ _
   go_wp2_with fail
   go_meet
   exact MulB.stored gA.out K5.out K6.out B7.out (Nat.le_refl _)
 case rest =>
  obtain ⟨g,a7,c7,a8,c8,rfl,rfl,hg,k7,k8,hbc⟩ := hcut
  have hFw := HFl.out wc _ _ k7 k8
  obtain ⟨L5,hL5⟩ : ∃ L,(lim P).length = L := ⟨_,rfl⟩
  obtain ⟨L6,hL6⟩ : ∃ L,(lim Q).length = L := ⟨_,rfl⟩
  rw [hL5,hL6] at hg hFw
  obtain ⟨x0,x1,x2,xl⟩ := box3 hg (Below.refl _ wc)
  have HFw := Lib.hid hFw;have HBc := Lib.hid (bt BX.out hbc)
  clear hFw hg k7 k8 hbc hL5 hL6
  have hz2 : ¬ 1000000000000000 < z := by omega
  go_wp2_with (go_at_call 117;refine HFw.out.mono ?_;rintro e w8 ⟨rfl,hb⟩;have B8 := Lib.hid (bt HBc.out hb);clear hb)
  go_ret2
  exact ⟨rfl,B8.out⟩
end

section
open Go Go.RowKit Go.Shelf Limb

theorem own_notT {base g : Nat} {W : World} {va : Value} {S : Nat → Prop} {ts : List Tie} {cs : Array Value} (ho : Own base 115 2 (dTie S) W va ts) (hg : W.heap[g]? = some (.cells cs 58 (0,0))) : va.ownBlock ≠ some g := by
 intro e
 obtain ⟨cur,h1⟩ := own_type ho e
 rw [h1] at hg
 simp only [Option.some.injEq,Obj.cells.injEq] at hg
 exact absurd hg.2.1 (by decide)
theorem SeatI.am {base : Nat} {w wr w1 w2 : World} {vt vl va : Value} {s : St} {am : List Int} (h : SeatI base w wr (.slice none 0 0) vt vl s) (_ : Below wr.heap.size wr w1) (h2 : Own wr.heap.size 3 1 (dInt .i64) w1 va am) (hl : am.length ≤ 1000000) (hz : base ≤ wr.heap.size) (hb2 : Below w1.heap.size w1 w2) : RInts (Tz base w2 (.slice none 0 0) vt) w2 va am :=
 RSl.mono (fun _ _ _ h => h) (fun b h => Tz.up hb2.size (.inl rfl) (.inl rfl) b h) ((h.among h2 hl hz).same (.of_below hb2))
set_option maxHeartbeats 16000000 in
set_option maxRecDepth 100000 in
set_option linter.unusedSimpArgs false in
theorem law_mrounds (u v : Value) (p : Prof) (seats : Int) (lot : List Int) (w : World) (h : VProf Any w u p) (_ : (Lit.int .i64 seats).wf = true) (hv : RInts Any w v lot) :
  Calls Tryz.prog 12 #[u,.int .i64 seats,v] w fun e w' => e = .returned (.bool true) ∧ Below w.heap.size w w' := by
 have h1 := h
 obtain ⟨a,m,c,rfl⟩ := h.agg
 obtain ⟨a2,c2,rfl,-,-⟩ := RSl.shape hv
 obtain ⟨W0,hW0⟩ : ∃ W0,W0 = w.alloc (.cells #[.int .i64 p.cands,.int .u8 p.kind,.slice a m c] 24) := ⟨_,rfl⟩
 have hb0 : Below w.heap.size w W0 := by rw [hW0];exact qa1 w _
 have hg0 : W0.heap[w.heap.size]? = some (.cells #[.int .i64 p.cands,.int .u8 p.kind,.slice a m c] 24 (0,0)) := by rw [hW0];exact qa8 w _
 have hP := h1.same (.of_below hb0)
 have hL := hv.same (.of_below hb0)
 have hMay := l19May Any Any _ _ p seats lot W0 hP hL
 by_cases h0 : rankI p seats lot = 0
 ·have hm : mayG p seats lot = true := by simp [mayG, h0]
  rw [hm] at hMay
  obtain ⟨C,sn,hF⟩ := rankF h0
  obtain rfl := hF.seats
  have hll : lot.length = C := hF.lot.len
  have hc10 := hF.c10
  have hs1 := hF.s
  have hC10 : C ≤ 10 := hc10.2
  have hsn10 : sn ≤ 10 := by omega
  obtain ⟨k1,k2,k3,k4⟩ := meeF_end hF
  have hO := meeV_is hF h0
  obtain ⟨S,hS⟩ : ∃ S,meeS p sn lot C = S := ⟨_,rfl⟩
  rw [hS] at k1 k2 k3 k4 hO
  obtain ⟨nr,hnr⟩ : ∃ n,S.rounds.length = n := ⟨_,rfl⟩
  obtain ⟨nt,hnt⟩ : ∃ n,S.ties.length = n := ⟨_,rfl⟩
  rw [hnr] at k2
  rw [hnt] at k3
  have hCt := fun (W : World) (hW : Below W0.heap.size W0 W) => meeCountL Any Any _ _ p sn lot W _ (hP.same (.of_below hW)) (hL.same (.of_below hW)) h0 hO k1 hnr hnt
  have hLo := fun (W : World) (hW : Below W0.heap.size W0 W) => hL.same (.of_below hW)
  obtain ⟨kk,hkk⟩ : ∃ x,p.kind = x := ⟨_,rfl⟩
  have hMk := fun (W : World) (hW : Below W0.heap.size W0 W) => profMarked Any _ p W (hP.same (.of_below hW))
  rw [markV,if_pos hF.chk,hF.chk] at hMk
  have hvb := hF.votes
  have hdec := fun i hi => decM hF (i := i) hi
  have hrg := fun i hi => rndM hF (i := i) hi
  have hrn := mee_rounds hF
  have hti : ∀ i,(meeS p sn lot i).ties.length ≤ C := fun i => by have := (meeS_sq hF i).ties;omega
  have hin : ∀ i,(meeS p sn lot i).inn.length ≤ C := fun i => by have := (meeS_sq hF i).rounds;omega
  have h00 : (meeS p sn lot 0).inn = rngI C ∧ (meeS p sn lot 0).ties = [] := by
   have hC : p.cands.toNat = C := by rw [hF.cands,Int.toNat_natCast]
   unfold meeS
   rw [hC]
   exact ⟨rfl,rfl⟩
  have hqe : ∀ i,mQuo p sn lot C i = quoM (markS p.rows) (mLost p sn lot C i) sn := fun i => rfl
  simp only [hS] at hdec hrg hrn
  obtain ⟨V,hV⟩ : ∃ V,markS p.rows = V := ⟨_,rfl⟩
  have hrb : ∀ i (_ : i < S.rounds.length),(0 ≤ mLost p sn lot C i ∧ mLost p sn lot C i ≤ V * 1000000000) ∧ (1 ≤ mQuo p sn lot C i ∧ mQuo p sn lot C i ≤ 1000000000000001) ∧ S.rounds[i].lost = bill (mLost p sn lot C i) := fun i hi => ⟨hV ▸ (hrg i hi).lbnd,(hrg i hi).qbnd,(hrg i hi).lost⟩
  obtain ⟨gh,hgh⟩ : ∃ g,mHad p sn lot C = g := ⟨_,rfl⟩
  obtain ⟨si,hsi⟩ : ∃ s,meeS p sn lot = s := ⟨_,rfl⟩
  have hB : ∀ i (_ : i < S.rounds.length),∀ x : Nat,0 ≤ gI (gh i) x ∧ gI (gh i) x ≤ 1000000000000000 := fun i hi => by
   have := (hrg i hi).bnd
   simp only [hgh] at this
   exact this
  have hlneg : ∀ i (hi : i < S.rounds.length),S.rounds[i].lost.neg = false := fun i hi => by
   rw [(hrb i hi).2.2]
   have := (hrb i hi).1.1
   obtain ⟨z,hz⟩ : ∃ z : Nat,mLost p sn lot C i = (z : Int) := ⟨(mLost p sn lot C i).toNat,by omega⟩
   rw [hz,bill_of]
  obtain ⟨ml,hml⟩ : ∃ g,mLost p sn lot C = g := ⟨_,rfl⟩
  obtain ⟨mq,hmq⟩ : ∃ g,mQuo p sn lot C = g := ⟨_,rfl⟩
  simp only [hgh,hsi,hml,hmq,hV] at hdec hrn hti hin h00 hrb hMk hqe hvb
  rw [hnr] at hrn
  have hQq : ∀ i (_ : i < S.rounds.length) (W : World),Calls Tryz.prog 35 #[.int .i64 V,.int .i64 (ml i),.int .i64 sn] W fun e w' => e = .returned (.tuple #[.int .i64 (mq i),.int .i64 0]) ∧ w' = W := fun i hi W => by
   have h := meeQuota V (ml i) sn W
   have h1 : quoMI V (ml i) sn = 0 := by rw [quoMI,if_pos ⟨by omega,(hrb i hi).1,by omega⟩]
   rw [quoMV,if_pos h1,h1,← hqe i] at h
   exact h
  have hdec2 : ∀ i (hi : i < S.rounds.length),DecR C (gh i) lot (si i).inn (si i).ties (sn - (si i).el.length) (mq i) S.rounds[i] (si (i + 1)).inn (si (i + 1)).ties (sn - (si (i + 1)).el.length) := fun i hi => hdec i hi
  have hlb : ∀ i (_ : i < S.rounds.length),0 ≤ ml i ∧ ml i ≤ 1000000000000000 := fun i hi => by have := (hrb i hi).1;omega
  have hle : ∀ i (hi : i < S.rounds.length),S.rounds[i].lost = bill (ml i) := fun i hi => (hrb i hi).2.2
  have hAl := fun (W : World) => r11All C W (by omega)
  have hll2 : lot.length ≤ 1000000 := by rw [hll];omega
  have hlof := hF.lot
  have HMk := Lib.hid hMk;have HD := Lib.hid hdec2;have HB := Lib.hid hB;have HQq := Lib.hid hQq;have HAl := Lib.hid hAl;have Hti := Lib.hid hti;have Hin := Lib.hid hin;have H00 := Lib.hid h00;have Hrn := Lib.hid hrn;have Hneg := Lib.hid hlneg;have Hll2 := Lib.hid hll2;have HLot := Lib.hid hlof;have Hlb := Lib.hid hlb;have Hle := Lib.hid hle
  clear hMk hdec hdec2 hrg hB hQq hAl hti hin h00 hrn hlneg hll2 hlof hgh hsi hV hvb hrb hqe hml hmq hlb hle
  simp only [hF.cands,hkk,hll] at hMay hCt hLo hW0 hg0 ⊢
  have HMk2 := HMk.out
  simp only [hF.cands,hkk] at HMk2
  have HM2 := Lib.hid HMk2
  rw [hW0] at hMay
  clear HMk HMk2
  have HM := Lib.hid hMay;have HCt := Lib.hid hCt;have HLo := Lib.hid hLo;have HW0 := Lib.hid hW0;have G0 := Lib.hid hg0;have Hb0 := Lib.hid hb0;have HF := Lib.hid hF;have Hll := Lib.hid hll;have HJ := Lib.hid k4;have Hel := Lib.hid k1;have Hnr := Lib.hid hnr;have Hnt := Lib.hid hnt;have HS := Lib.hid hS
  clear hMay hCt hLo hW0 hg0 hb0 hF hll k4 k1 hnr hnt hS hP hL h h1 hv hm h0 hO hkk hc10
  have st0 := Lib.hid True.intro
  go_enter Tryz.func12,Tryz.ntmps12
  go_upto_region 8 with (first
   | (have := st3;go_at_call 52;clear st3;refine (HAl.out _).mono ?_;rintro e w4 ⟨vl0,rfl,ho,hb⟩;have C4 := Lib.hid hb;have HO4 := Lib.hid ho;clear hb ho pa pb pc pl this;have st4 := Lib.hid True.intro)
   | (have := st2;go_at_call 42;clear st2;refine (HM2.out _ (bt q2.out (qa1 w2 (.cells #[.slice b1 sn d1,.slice b2 nr d2,.slice b3 nt d3] 32)))).mono ?_;rintro e w3 ⟨rfl,hb⟩;have C3 := Lib.hid hb;have q3 := Lib.hid (bt q2.out (bt (qa1 w2 (.cells #[.slice b1 sn d1,.slice b2 nr d2,.slice b3 nt d3] 32)) hb));clear hb pa pb pc pl;obtain ⟨pa,pb,pc,pl⟩ := box3 G0.out q3.out;clear this;have st3 := Lib.hid True.intro)
   | (have := st0;go_at_call 25;clear st0;refine HM.out.mono ?_;rintro e w1 ⟨rfl,hb⟩;rw [← HW0.out] at hb;have q1 := Lib.hid hb;obtain ⟨pa,pb,pc,pl⟩ := box3 G0.out hb;clear hb;have st1 := Lib.hid True.intro;clear this)
   | (have := st1;go_at_call 29;clear st1;refine (HCt.out _ q1.out).mono ?_;rintro e w2 ⟨b1,d1,b2,d2,b3,d3,rfl,kv,hb⟩;have q2 := Lib.hid (bt q1.out hb);have HV2 := Lib.hid kv;clear hb kv pa pb pc pl;obtain ⟨pa,pb,pc,pl⟩ := box3 G0.out q2.out;have st2 := Lib.hid True.intro;clear this))
  have GX := Lib.hid (qax C3.out (qa8 w2 (.cells #[.slice b1 sn d1,.slice b2 nr d2,.slice b3 nt d3] 32)))
  have hV := HV2.out.same (w' := w3) (.of_below (bt (qa1 w2 (.cells #[.slice b1 sn d1,.slice b2 nr d2,.slice b3 nt d3] 32)) C3.out))
  obtain ⟨-,hR,hT⟩ := hV.split
  have HR : Hid (RRnds (fun b => b < w3.heap.size) w3 (.slice b2 nr d2) S.rounds) := Lib.hid (RRnds.mono (fun _ h => h.2) hR.cut)
  have HTs := Lib.hid hT
  have HLo3 := fun (W : World) (hW : Below w3.heap.size w3 W) => HLo.out W (bt q3.out hW)
  have HL3 := Lib.hid HLo3
  clear hV hR hT HLo3
  have S0 : Hid (SeatI w3.heap.size w3 w4 (.slice none 0 0) (.slice none 0 0) vl0 ⟨(si 0).inn,[],(si 0).ties⟩) := Lib.hid ⟨Own.nil _ _ _ _ _,by rw [H00.out.2];exact Own.nil _ _ _ _ _,by rw [H00.out.1];exact HO4.out,fun b _ e => by simp [Value.ownBlock] at e,C4.out⟩
  go_wp2
  go_loopw [11,12,13] (fun vi vt i wr => ∃ k : Nat,k ≤ nr ∧ i = .int .i64 k ∧ Hid (SeatI w3.heap.size w3 wr (.slice none 0 0) vt vi ⟨(si k).inn,[],(si k).ties⟩)) (fun _ _ i _ => nr - (intOf i).toNat)
  case atStart => exact ⟨0,Nat.zero_le _,rfl,S0⟩
  case round =>
   clear S0
   obtain ⟨k,hk,rfl,hI⟩ := hrel
   obtain ⟨wv,rfl⟩ : ∃ q : World,q = wr := ⟨_,rfl⟩
   have hb := hI.out.below
   obtain ⟨o0,o1,o2,ol⟩ := box3 GX.out hb
   by_cases hlt : k < nr
   ·have hlr : k < S.rounds.length := by rw [Hnr.out]; exact hlt
    have hD := HD.out k hlr
    have hB := HB.out k hlr
    have hneg := Hneg.out k hlr
    have hlb := Hlb.out k hlr
    have hle := Hle.out k hlr
    have hQq := HQq.out k hlr
    obtain ⟨qk,hqk⟩ : ∃ z,mq k = z := ⟨_,rfl⟩
    obtain ⟨lk,hlk⟩ : ∃ z : Nat,ml k = (z : Int) := ⟨(ml k).toNat,by omega⟩
    obtain ⟨H,hH⟩ : ∃ l,gh k = l := ⟨_,rfl⟩
    obtain ⟨r,hrr⟩ : ∃ r,S.rounds[k] = r := ⟨_,rfl⟩
    obtain ⟨xb,xoff,xd0,xd1,xd2,xd3,xd4,xd5,rfl,xS,xl,x0,x1,x2,x3,x4,x5,hx⟩ := RSl.at6 HR.out k hlr
    obtain ⟨xs0,xn0,xt0,xs2,xn2,xt2,xs3,xn3,xt3,xs4,ne,xt4,xs5,no,xt5,rfl,rfl,rfl,rfl,rfl,rfl,v0,v1,v4,v5⟩ := hx.open
    have hsm := Same.of_below (S := Any) hb
    replace x0 := hsm.cell trivial x0
    replace x1 := hsm.cell trivial x1
    replace x2 := hsm.cell trivial x2
    replace x3 := hsm.cell trivial x3
    replace x4 := hsm.cell trivial x4
    replace x5 := hsm.cell trivial x5
    have hxl : xb < wv.heap.size := Nat.lt_of_lt_of_le xl hb.size
    rw [hrr] at hD hneg v0 v1 v4 v5 x1 hle
    rw [hneg] at v1
    rw [hle,hlk] at v1
    rw [hlk] at hlb
    rw [hqk] at hD
    simp only [hqk,hlk] at hQq
    rw [hH] at hD hB
    rw [hneg] at x1
    rw [hD.had] at v0
    obtain rfl : xn0 = C := (RSl.len v0).trans (by rw [List.length_map];exact hD.hlen)
    have hne : r.elected.length = ne := (RSl.len v4).symm
    have hno : r.out.length = no := (RSl.len v5).symm
    obtain ⟨inn,hinn⟩ : ∃ l,(si k).inn = l := ⟨_,rfl⟩
    obtain ⟨T,hT⟩ : ∃ l,(si k).ties = l := ⟨_,rfl⟩
    obtain ⟨inn2,hinn2⟩ : ∃ l,(si (k + 1)).inn = l := ⟨_,rfl⟩
    obtain ⟨T2,hT2⟩ : ∃ l,(si (k + 1)).ties = l := ⟨_,rfl⟩
    have hil := Hin.out k
    have htl := Hti.out k
    rw [hinn,hT,hinn2,hT2] at hD
    rw [hinn,hT] at hI
    rw [hinn] at hil
    rw [hT] at htl
    obtain ⟨ni,hni⟩ : ∃ n,inn.length = n := ⟨_,rfl⟩
    obtain ⟨nt_,hnt_⟩ : ∃ n,T.length = n := ⟨_,rfl⟩
    obtain ⟨ai,ci,rfl⟩ := Own.shape hI.out.le
    obtain ⟨at_,ct,rfl⟩ := Own.shape hI.out.ti
    simp only [hni,hnt_] at hI hil htl ⊢
    have hD2 := hD
    have hel1 := hD.len
    have hel3 := hD.outs
    rw [hne,hni] at hel1
    rw [hno] at hel3
    have hne10 : ne ≤ 10 := by omega
    have hni10 : ni ≤ 10 := by omega
    obtain ⟨X1,hX1⟩ : ∃ W,W = wv.alloc (.cells #[.slice xs0 xn0 xt0,.bool false,.slice xs2 xn2 xt2,.slice xs3 xn3 xt3,.slice xs4 ne xt4,.slice xs5 no xt5] 58) := ⟨_,rfl⟩
    have hbX1 : Below wv.heap.size wv X1 := by rw [hX1];exact qa1 _ _
    have gX1 : X1.heap[wv.heap.size]? = some (.cells #[.slice xs0 xn0 xt0,.bool false,.slice xs2 xn2 xt2,.slice xs3 xn3 xt3,.slice xs4 ne xt4,.slice xs5 no xt5] 58 (0,0)) := by rw [hX1];exact qa8 _ _
    have KC : Hid (∀ W : World,W.heap[wv.heap.size]? = some (.cells #[.slice xs0 xn0 xt0,.bool false,.slice xs2 xn2 xt2,.slice xs3 xn3 xt3,.slice xs4 ne xt4,.slice xs5 no xt5] 58 (0,0)) → W.cell? ⟨wv.heap.size,0,none⟩ = some (.slice xs0 xn0 xt0) ∧ W.cell? ⟨wv.heap.size,1,none⟩ = some (.bool false) ∧ W.cell? ⟨wv.heap.size,2,none⟩ = some (.slice xs2 xn2 xt2) ∧ W.cell? ⟨wv.heap.size,3,none⟩ = some (.slice xs3 xn3 xt3) ∧ W.cell? ⟨wv.heap.size,4,none⟩ = some (.slice xs4 ne xt4) ∧ W.cell? ⟨wv.heap.size,5,none⟩ = some (.slice xs5 no xt5) ∧ wv.heap.size < W.heap.size) := Lib.hid fun W h => ⟨(qa6 (Below.refl _ W) (qa0 h) h).2.1 0,(qa6 (Below.refl _ W) (qa0 h) h).2.1 1,(qa6 (Below.refl _ W) (qa0 h) h).2.1 2,(qa6 (Below.refl _ W) (qa0 h) h).2.1 3,(qa6 (Below.refl _ W) (qa0 h) h).2.1 4,(qa6 (Below.refl _ W) (qa0 h) h).2.1 5,qa0 h⟩
    have I1 : Hid (SeatI w3.heap.size w3 X1 (.slice none 0 0) (.slice at_ nt_ ct) (.slice ai ni ci) ⟨inn,[],T⟩) := Lib.hid (hI.out.later hbX1 hb.size)
    have V0 : Hid (RRts (fun b => b < w3.heap.size) w3 (.slice xs0 xn0 xt0) (H.map bill)) := Lib.hid v0
    have V1 : Hid (VRt Any w3 (.agg #[.bool false,.slice xs2 xn2 xt2,.slice xs3 xn3 xt3]) (bill (lk : Int))) := Lib.hid v1.any
    have V4 : Hid (RInts (fun b => b < w3.heap.size) w3 (.slice xs4 ne xt4) r.elected) := Lib.hid v4
    have V5 : Hid (RInts (fun b => b < w3.heap.size) w3 (.slice xs5 no xt5) r.out) := Lib.hid v5
    have HD1 := Lib.hid hD2;have HB1 := Lib.hid hB;have HX1 := Lib.hid hX1;have GX1 := Lib.hid gX1;have Hne := Lib.hid hne;have Hno := Lib.hid hno;have Hni := Lib.hid hni;have Hntt := Lib.hid hnt_;have Hi2 := Lib.hid hinn2;have HT2 := Lib.hid hT2;have HQk := Lib.hid hQq;have Hlk := Lib.hid hlb.2
    have hwz := hb.size
    clear v0 v1 v4 v5 hD hD2 hB hneg hH hrr hsm hx xS xl hne hno hni hnt_ hinn hT hinn2 hT2 hle hQq hlb hqk hlk hX1 gX1 hbX1 hI hb
    go_upto_region 13 with fail
    rw [← HX1.out]
    clear x0 x1 x2 x3 x4 x5 o0 o1 o2 ol
    obtain ⟨z0,z1,z2,z3,z4,z5,zl⟩ := KC.out X1 GX1.out
    obtain ⟨pa,pb,pc,pl⟩ := box3 G0.out (bt q3.out I1.out.below)
    clear z0 z1 z2 z3 z4 z5 zl
    obtain ⟨z0,z1,z2,z3,z4,z5,zl⟩ := KC.out X1 GX1.out
    go_wp2
    clear pa pb pc pl z0 z1 z2 z3 z4 z5 zl
    go_loopw [11,12,15] (fun vi vt i wr => ∃ j : Nat,j ≤ ne ∧ i = .int .i64 j ∧ Hid (SeatI w3.heap.size w3 wr (.slice none 0 0) vt vi ⟨(fillS H lot inn j).left,[],T ++ (fillS H lot inn j).ties⟩) ∧ Hid (wr.heap[wv.heap.size]? = some (.cells #[.slice xs0 xn0 xt0,.bool false,.slice xs2 xn2 xt2,.slice xs3 xn3 xt3,.slice xs4 ne xt4,.slice xs5 no xt5] 58 (0,0)))) (fun _ _ i _ => ne - (intOf i).toNat)
    case atStart => exact ⟨0,Nat.zero_le _,rfl,Lib.hid (by simpa [fillS] using I1.out),GX1⟩
    case round =>
     obtain ⟨j,hj,rfl,hIj,hgx⟩ := hrel
     obtain ⟨wj,rfl⟩ : ∃ q : World,q = wr := ⟨_,rfl⟩
     obtain ⟨z0,z1,z2,z3,z4,z5,zl⟩ := KC.out wj hgx.out
     have hbj := hIj.out.below
     obtain ⟨aj,cj,rfl⟩ := Own.shape hIj.out.le
     obtain ⟨atj,ctj,rfl⟩ := Own.shape hIj.out.ti
     obtain ⟨L,hL⟩ : ∃ l,(fillS H lot inn j).left = l := ⟨_,rfl⟩
     obtain ⟨F,hF⟩ : ∃ l,(fillS H lot inn j).ties = l := ⟨_,rfl⟩
     obtain ⟨TT,hTT⟩ : ∃ l,T ++ F = l := ⟨_,rfl⟩
     obtain ⟨nL,hnL⟩ : ∃ n,L.length = n := ⟨_,rfl⟩
     obtain ⟨nT,hnT⟩ : ∃ n,TT.length = n := ⟨_,rfl⟩
     simp only [hL,hF,hTT,hnL,hnT] at hIj ⊢
     have hzj := hbj.size
     by_cases hlt2 : j < ne
     ·obtain ⟨a1, a2, a3, a4, a5, a6⟩ := fill_at (H := H) HLot.out HD1.out.rng HD1.out.asc (j := j) (show j < inn.length by rw [Hni.out]; omega)
      have hels := HD1.out.els j (by rw [Hne.out];exact hlt2)
      obtain ⟨am,ham⟩ : ∃ l,bestL (gI H) L = l := ⟨_,rfl⟩
      obtain ⟨x,hx⟩ : ∃ x,firstL lot am = x := ⟨_,rfl⟩
      have hstep : (fillS H lot inn (j + 1)).left = L.filter (fun y => !(y == x)) ∧ T ++ (fillS H lot inn (j + 1)).ties = TT ++ tieL am x := by
       simp only [fillS,hL,ham,hx,hF]
       exact ⟨trivial,by rw [← hTT,List.append_assoc]⟩
      simp only [hL,hF,ham,hx] at a1 a2 a3 a4 a5 a6 hels
      obtain ⟨xn,rfl⟩ : ∃ n : Nat,x = (n : Int) := ⟨x.toNat,by omega⟩
      have hxC : xn < xn0 := by omega
      have haml : am.length ≤ 1000000 := by rw [← ham];exact Nat.le_trans (List.length_filter_le _ _) (by rw [Hni.out] at a5;omega)
      have hnL10 : nL ≤ 10 := by rw [← hnL];rw [Hni.out] at a5;omega
      have hnT10 : nT ≤ 20 := by rw [← hnT,← hTT,List.length_append,Hntt.out];omega
      obtain ⟨eb,eoff,ec,rfl,-,-,hec,hed⟩ := RSl.at1 (V4.out.same (.of_below hbj)) j (by rw [Hne.out];exact hlt2)
      obtain ⟨rfl,hxw⟩ := hed.open
      rw [hels] at hec hxw
      have hLr := Own.ints hIj.out.le (by rw [hnL];omega)
      have hIn := fun (W : World) (hW : Below wj.heap.size wj W) => in_c Any _ L (xn : Int) W (RInts.same (.of_below hW) hLr)
      rw [hasI_mem.2 a1] at hIn
      have hAk := fun (W : World) (hW : Below wj.heap.size wj W) => lawAlikeM (fun b => b < w3.heap.size) Any (.slice xs0 xn0 xt0) _ H L (xn : Int) 1 xn0 W (V0.out.same (.of_below (bt hbj hW))) (RInts.same (.of_below hW) hLr) HD1.out.hlen (by omega) HB1.out ⟨by omega,by omega⟩ (.inl ⟨rfl,fun y hy => (a4 y hy).2⟩)
      rw [a3] at hAk
      have HIn := Lib.hid hIn;have HAk := Lib.hid hAk;have Hstep := Lib.hid hstep;have Haml := Lib.hid haml;have HX := Lib.hid hx;have Hxw := Lib.hid hxw;have HNL := Lib.hid hnL;have HNT := Lib.hid hnT;have Hgx := hgx;have Hzl := Lib.hid zl;have Hbj := Lib.hid hbj
      clear hIn hAk hstep haml hx hxw a1 a2 a3 a4 a5 a6 hels ham hLr hL hF hTT hnL hnT hed hbj
      go_upto_region 21 with (first | (go_at_call 39;refine (HIn.out _ (Below.refl _ wj)).mono ?_;rintro e w5 ⟨rfl,hb⟩;have B5 := Lib.hid hb;clear hb))
      clear z0 z1 z2 z3 z4 z5 zl
      obtain ⟨z0,z1,z2,z3,z4,z5,zl⟩ := KC.out w5 ((B5.out.block _ Hzl.out).trans Hgx.out)
      go_upto_region 22 with (first | (go_at_call 53;refine (HAk.out _ B5.out).mono ?_;rintro e w6 ⟨va,rfl,ho,hb⟩;have B6 := Lib.hid (bt B5.out hb);have B56 := Lib.hid hb;have HO6 := Lib.hid ho;clear hb ho))
      obtain ⟨aa,ca,rfl⟩ := Own.shape HO6.out
      obtain ⟨na,hna⟩ : ∃ n,am.length = n := ⟨_,rfl⟩
      have HNA := Lib.hid hna
      rw [hna]
      rw [hna] at HO6
      clear hna
      clear z0 z1 z2 z3 z4 z5 zl hec
      have HI8 := Lib.hid (hIj.out.later B6.out hzj)
      have HAm := Lib.hid (SeatI.am (hIj.out.later B5.out hzj) (B56.out) HO6.out Haml.out (Nat.le_trans hzj B5.out.size) (Below.refl _ w6))
      have G8 := Lib.hid ((B6.out.block _ Hzl.out).trans Hgx.out)
      have hFi := r11First Any _ _ _ lot am w6 (RInts.mono (fun _ _ => trivial) (HL3.out w6 (bt Hbj.out B6.out))) HAm.out
      rw [HX.out] at hFi
      have hz8 := Nat.le_trans hzj B6.out.size
      have hTi := r11TiedG w3.heap.size _ _ _ TT am (xn : Int) w6 HI8.out.ti (fun b hb => hb.2.2.2) HAm.out Hxw.out hz8 (by rw [HNT.out];omega)
      have HFi := Lib.hid hFi;have HTi := Lib.hid hTi
      clear hFi hTi B5 B6 B56
      go_wp2_with (first
       | (go_at_call 54;refine HFi.out.mono ?_;rintro e w1' ⟨rfl,rfl⟩)
       | (go_at_call 55;refine HTi.out.mono ?_;rintro e w9 ⟨vt9,rfl,k2,k3,k4,k5⟩;have HI9 := Lib.hid (HI8.out.tie k2 k3 k4 k5);have G9 := Lib.hid ((k4.block _ (qa0 G8.out) (fun e => own_notT HI8.out.ti G8.out e.symm)).trans G8.out);clear k2 k3 k4 k5)
       | (go_at_call 56;refine (r11Without _ _ L (xn : Int) _ (Own.rsl HI9.out.le (by rw [HNL.out];omega)) (by rw [HNL.out];omega)).mono ?_;rintro e w10 ⟨vl10,rfl,ho,hb⟩;have HI10 := Lib.hid (HI9.out.drop ho hb HI9.out.below.size);have G10 := Lib.hid ((hb.block _ (qa0 G9.out)).trans G9.out);clear ho hb))
      exact ⟨⟨j + 1,by omega,by go_num,Lib.hid (by rw [Hstep.out.1,Hstep.out.2];exact HI10.out),G10⟩,by simp [intOf];omega⟩
     ·have hje : ne = j := by omega
      subst hje
      clear hj hlt2
      go_wp2
      go_loopw [11,12,19] (fun vi vt i wr => ∃ j2 : Nat,j2 ≤ no ∧ i = .int .i64 j2 ∧ Hid (SeatI w3.heap.size w3 wr (.slice none 0 0) vt vi (if j2 = 0 then ⟨L,[],TT⟩ else ⟨inn2,[],T2⟩)) ∧ Hid (wr.heap[wv.heap.size]? = some (.cells #[.slice xs0 xn0 xt0,.bool false,.slice xs2 xn2 xt2,.slice xs3 xn3 xt3,.slice xs4 ne xt4,.slice xs5 no xt5] 58 (0,0)))) (fun _ _ i _ => no - (intOf i).toNat)
      case atStart => exact ⟨0,Nat.zero_le _,rfl,hIj,hgx⟩
      case round =>
       clear z0 z1 z2 z3 z4 z5 zl hgx
       have Hbj := Lib.hid hbj
       clear hbj hIj
       obtain ⟨j2,hj2,rfl,hIo,hgo⟩ := hrel
       obtain ⟨wo,rfl⟩ : ∃ q : World,q = wr := ⟨_,rfl⟩
       obtain ⟨z0,z1,z2,z3,z4,z5,zl⟩ := KC.out wo hgo.out
       by_cases hlt3 : j2 < no
       ·obtain rfl : j2 = 0 := by omega
        have hno0 : 0 < r.out.length := by rw [Hno.out];exact hlt3
        obtain ⟨s1,s2,s3,s4,s5⟩ := HD1.out.some hno0
        have hj0 : ne = 0 := by rw [← Hne.out];exact s1
        rw [hj0] at hL hF
        have hL' : inn = L := hL
        have hF' : [] = F := hF
        subst hL' hF'
        rw [List.append_nil] at hTT
        subst hTT
        simp only [if_pos,if_true,Hni.out,Hntt.out] at hIo
        obtain rfl : ni = nL := Hni.out.symm.trans hnL
        obtain rfl : nt_ = nT := Hntt.out.symm.trans hnT
        obtain ⟨c1,c2,c3⟩ := out_at (H := H) HLot.out HD1.out.rng HD1.out.asc (List.length_pos_iff.1 HD1.out.ne)
        obtain ⟨am,ham⟩ : ∃ l,bestL (fun y => - gI H y) inn = l := ⟨_,rfl⟩
        obtain ⟨x,hx⟩ : ∃ x,firstL lot.reverse am = x := ⟨_,rfl⟩
        simp only [ham,hx] at c1 c2 c3 s2 s4 s5
        rw [s2] at s4 s5
        have hxr := HD1.out.rng x c1
        obtain ⟨xn,rfl⟩ : ∃ n : Nat,x = (n : Int) := ⟨x.toNat,by omega⟩
        have hxC : xn < xn0 := by omega
        have haml : am.length ≤ 1000000 := by rw [← ham];exact Nat.le_trans (List.length_filter_le _ _) (by rw [Hni.out];omega)
        have hbo := hIo.out.below
        have hzo := hbo.size
        obtain ⟨ao,co,hvo⟩ := Own.shape hIo.out.le
        simp only [Hni.out] at hvo
        subst hvo
        obtain ⟨ato,cto,hvt⟩ := Own.shape hIo.out.ti
        simp only [Hntt.out] at hvt
        subst hvt
        obtain ⟨eb,eoff,ec,rfl,-,-,hec,hed⟩ := RSl.at1 (V5.out.same (.of_below hbo)) 0 hno0
        obtain ⟨rfl,hxw⟩ := hed.open
        rw [s2] at hec hxw
        rw [Nat.add_zero] at hec
        have hLr := Own.ints hIo.out.le (by rw [Hni.out];omega)
        have hIn := fun (W : World) (hW : Below wo.heap.size wo W) => in_c Any _ inn (xn : Int) W (RInts.same (.of_below hW) hLr)
        rw [hasI_mem.2 c1] at hIn
        have hAk := fun (W : World) (hW : Below wo.heap.size wo W) => lawAlikeM (fun b => b < w3.heap.size) Any (.slice xs0 xn0 xt0) _ H inn (xn : Int) (-1) xn0 W (V0.out.same (.of_below (bt hbo hW))) (RInts.same (.of_below hW) hLr) HD1.out.hlen (by omega) HB1.out ⟨by omega,by omega⟩ (.inr ⟨rfl,c3⟩)
        rw [c2] at hAk
        have hLrW := fun (W : World) (hW : Below wo.heap.size wo W) => RInts.same (.of_below hW) hLr
        have HIn := Lib.hid hIn;have HAk := Lib.hid hAk;have Haml := Lib.hid haml;have HX := Lib.hid hx;have Hxw := Lib.hid hxw;have Hbo := Lib.hid hbo;have S3 := Lib.hid s3;have S4 := Lib.hid s4;have S5 := Lib.hid s5;have Hzl := Lib.hid zl;have HLr := Lib.hid hLrW
        clear hIn hAk haml hx hxw hbo c1 c2 c3 s1 s2 s3 s4 s5 ham hxr hLr hLrW hL hF hnL hnT hj0
        go_upto_region 32 with (first | (go_at_call 39;refine (HIn.out _ (Below.refl _ wo)).mono ?_;rintro e w5 ⟨rfl,hb⟩;have B5 := Lib.hid hb;clear hb))
        clear z0 z1 z2 z3 z4 z5 zl
        obtain ⟨z0,z1,z2,z3,z4,z5,zl⟩ := KC.out w5 ((B5.out.block _ Hzl.out).trans hgo.out)
        have hFi := fun (W : World) (va : Value) (hW : Below wo.heap.size wo W) (ha : RInts Any W va am) => r11Last Any _ _ va lot am W (RInts.mono (fun _ _ => trivial) (HL3.out W (bt Hbo.out hW))) ha Hll2.out
        rw [HX.out] at hFi
        have HFi := Lib.hid hFi
        clear hFi
        have hBl := fun (W : World) (hW : Below wo.heap.size wo W) => quoBil _ _ lk W (V1.out.same (.of_below (bt Hbo.out hW))) (by have := Hlk.out;omega)
        have HBl := Lib.hid hBl
        clear hBl
        go_upto_region 34 with (first
         | (go_at_call 53;refine (HAk.out _ B5.out).mono ?_;rintro e w6 ⟨va,rfl,ho,hb⟩;have B6 := Lib.hid (bt B5.out hb);have B56 := Lib.hid hb;have HO6 := Lib.hid ho;clear hb ho z0 z1 z2 z3 z4 z5 zl;obtain ⟨z0,z1,z2,z3,z4,z5,zl⟩ := KC.out w6 ((B6.out.block _ Hzl.out).trans hgo.out))
         | (go_at_call 50;refine (HBl.out _ B6.out).mono ?_;rintro e w7 ⟨rfl,hb⟩;have B67 := Lib.hid hb;have B7 := Lib.hid (bt B6.out hb);clear hb))
        clear z0 z1 z2 z3 z4 z5 zl
        have Ham7 := Lib.hid ((Own.ints HO6.out Haml.out).same (.of_below B67.out))
        go_upto_region 37 with (first
         | (go_at_call 35;refine (HQk.out _).mono ?_;rintro e w7' ⟨rfl,hww⟩;obtain rfl := hww.symm)
         | (go_at_call 57;refine (HFi.out _ _ B7.out Ham7.out).mono ?_;rintro e w6' ⟨rfl,rfl⟩))
        obtain ⟨aa,ca,rfl⟩ := Own.shape HO6.out
        obtain ⟨na,hna⟩ : ∃ n,am.length = n := ⟨_,rfl⟩
        have HNA := Lib.hid hna
        rw [hna]
        rw [hna] at HO6
        clear hna hec hed
        go_wp2
        go_loopw [27] (fun i wr => ∃ t : Nat,t ≤ ni ∧ i = .int .i64 t ∧ Hid (Below w7.heap.size w7 wr)) (fun i _ => ni - (intOf i).toNat)
        case atStart => exact ⟨0,Nat.zero_le _,rfl,Lib.hid (Below.refl _ _)⟩
        case round =>
         obtain ⟨t,ht,rfl,hbt⟩ := hrel
         obtain ⟨wt,rfl⟩ : ∃ q : World,q = wr := ⟨_,rfl⟩
         have hbo6 := bt B7.out hbt.out
         by_cases hlt4 : t < ni
         ·obtain ⟨z0, z1, z2, z3, z4, z5, zl⟩ := KC.out wt ((hbo6.block _ Hzl.out).trans hgo.out)
          have hti : t < inn.length := by rw [Hni.out];exact hlt4
          obtain ⟨ib,ioff,ic,rfl,-,-,hic,hid⟩ := RSl.at1 (HLr.out wt hbo6) t hti
          obtain ⟨rfl,hiw⟩ := hid.open
          obtain ⟨y,hy⟩ : ∃ y,inn[t] = y := ⟨_,rfl⟩
          have hym : y ∈ inn := hy ▸ List.getElem_mem hti
          have hyr := HD1.out.rng y hym
          have hyq := S3.out y hym
          rw [hy] at hic hiw
          obtain ⟨yn,rfl⟩ : ∃ n : Nat,y = (n : Int) := ⟨y.toNat,by omega⟩
          have hyC : yn < xn0 := by omega
          obtain ⟨hb_,ho_,u3,l3,m3,u4,l4,m4,rfl,-,hbl,k0,k1,k2,kv⟩ := ent_at (V0.out.same (.of_below (bt Hbo.out hbo6))) (j := yn) (by rw [HD1.out.hlen];exact hyC) (HB1.out yn).1
          obtain ⟨hn,hhn⟩ : ∃ z : Nat,gI H yn = (z : Int) := ⟨(gI H yn).toNat,by have := (HB1.out yn).1;omega⟩
          have hnb : hn ≤ 1000000000000000 := by have := (HB1.out yn).2;omega
          rw [hhn] at kv
          have hBn := fun (W : World) (hW : Below wt.heap.size wt W) => quoBil _ (.agg #[.bool false,.slice u3 l3 m3,.slice u4 l4 m4]) hn W (kv.same (.of_below hW)) hnb
          have hc1 : ¬ qk ≤ (hn : Int) := by omega
          have hc2 : ¬ (hn : Int) ≥ qk := by omega
          have hS43 : ∀ W : World,Below wt.heap.size wt W → (fun W : World => W.cell? ⟨wv.heap.size,0,none⟩ = some (.slice (some ⟨hb_,ho_,none⟩) xn0 xt0) ∧ W.cell? ⟨ib,ioff + t,none⟩ = some (.int .i64 (yn : Int)) ∧ W.cell? ⟨hb_,ho_ + yn * 3,none⟩ = some (.bool false) ∧ W.cell? ⟨hb_,ho_ + yn * 3 + 1,none⟩ = some (.slice u3 l3 m3) ∧ W.cell? ⟨hb_,ho_ + yn * 3 + 2,none⟩ = some (.slice u4 l4 m4)) W := fun W hW => by
           have hs := Same.of_below (S := Any) hW
           exact ⟨hs.cell trivial z0,hs.cell trivial hic,hs.cell trivial k0,hs.cell trivial k1,hs.cell trivial k2⟩
          have HBn := Lib.hid hBn;have HS43 := Lib.hid hS43
          clear hBn hS43 hhn hy hym hyr hyq hiw hid hbl kv hti hnb hbo6
          go_upto_region 40 with fail
          clear z0 z1 z2 z3 z4 z5 zl k0 k1 k2 hic
          refine qat (S := (fun W : World => W.cell? ⟨wv.heap.size,0,none⟩ = some (.slice (some ⟨hb_,ho_,none⟩) xn0 xt0) ∧ W.cell? ⟨ib,ioff + t,none⟩ = some (.int .i64 (yn : Int)) ∧ W.cell? ⟨hb_,ho_ + yn * 3,none⟩ = some (.bool false) ∧ W.cell? ⟨hb_,ho_ + yn * 3 + 1,none⟩ = some (.slice u3 l3 m3) ∧ W.cell? ⟨hb_,ho_ + yn * 3 + 2,none⟩ = some (.slice u4 l4 m4))) (L := []) (by kernel_rfl) (HS43.out _ (Below.drew (Below.refl _ wt))) (fun hHeld => ?_)
          refine tk 0 ?_ rfl hHeld ?_ ?_;rotate_left
          ·intro w hSw;(try dsimp only at hSw);go_simp;try (with_reducible rfl)
          (try simp only [la,lb,lc,ld,lf,lg,lh])
          refine tk 1 ?_ rfl hHeld ?_ ?_;rotate_left
          ·intro w hSw;(try dsimp only at hSw);go_simp;try (with_reducible rfl)
          (try simp only [la,lb,lc,ld,lf,lg,lh])
          refine tk 2 ?_ rfl hHeld ?_ ?_;rotate_left
          ·intro w hSw;(try dsimp only at hSw);go_simp;try (with_reducible rfl)
          (try simp only [la,lb,lc,ld,lf,lg,lh])
          refine tk 3 ?_ rfl hHeld ?_ ?_;rotate_left
          ·intro w hSw;(try dsimp only at hSw);go_simp;try (with_reducible rfl)
          (try simp only [la,lb,lc,ld,lf,lg,lh])
          refine tk 4 ?_ rfl hHeld ?_ ?_;rotate_left
          ·intro w hSw;(try dsimp only at hSw);go_simp;try (with_reducible rfl)
          (try simp only [la,lb,lc,ld,lf,lg,lh])
          refine tk 5 ?_ rfl hHeld ?_ ?_;rotate_left
          ·intro w hSw;(try dsimp only at hSw);go_simp;try (with_reducible rfl)
          (try simp only [la,lb,lc,ld,lf,lg,lh])
          refine tk 6 ?_ rfl hHeld ?_ ?_;rotate_left
          ·intro w hSw;(try dsimp only at hSw);go_simp;try (with_reducible rfl)
          (try simp only [la,lb,lc,ld,lf,lg,lh])
          refine tk 7 ?_ rfl hHeld ?_ ?_;rotate_left
          ·intro w hSw;(try dsimp only at hSw);go_simp;try (with_reducible rfl)
          (try simp only [la,lb,lc,ld,lf,lg,lh])
          refine qa9 (i := 8) (by kernel_rfl) rfl (fun K hK => ?_)
          (go_simp;go_at_call 50;refine (HBn.out _ (Below.drew (Below.refl _ wt))).mono ?_;rintro e w8 ⟨rfl,hb⟩;have B8 := Lib.hid (bt (Below.drew (Below.refl _ wt)) hb);clear hb)
          refine hK.out _ _ (HS43.out _ B8.out) (fun hHeld => ?_)
          clear hK K
          (try simp only [la,lb,lc,ld,lf,lg,lh])
          refine tk 9 ?_ rfl hHeld ?_ ?_;rotate_left
          ·intro w hSw;(try dsimp only at hSw);go_simp;try (with_reducible rfl)
          (try simp only [la,lb,lc,ld,lf,lg,lh])
          refine tk 10 ?_ rfl hHeld ?_ ?_;rotate_left
          ·intro w hSw;(try dsimp only at hSw);go_simp;try (with_reducible rfl)
          (try simp only [la,lb,lc,ld,lf,lg,lh])
          refine tk 11 ?_ rfl hHeld ?_ ?_;rotate_left
          ·intro w hSw;(try dsimp only at hSw);go_simp;try (with_reducible rfl)
          (try simp only [la,lb,lc,ld,lf,lg,lh])
          refine tk 12 ?_ rfl hHeld ?_ ?_;rotate_left
          ·intro w hSw;(try dsimp only at hSw);go_simp;try (with_reducible rfl)
          (try simp only [la,lb,lc,ld,lf,lg,lh])
          refine tk 13 ?_ rfl hHeld ?_ ?_;rotate_left
          ·intro w hSw;(try dsimp only at hSw);go_simp;try (with_reducible rfl)
          (try simp only [la,lb,lc,ld,lf,lg,lh])
          refine qam (by kernel_rfl) ?_ _
          go_wp2_with fail
          exact ⟨⟨t + 1,by omega,by go_num,Lib.hid (bt hbt.out B8.out)⟩,by simp [intOf];omega⟩
         ·have hte : t = ni := by omega
          clear hlt4 ht
          have HI8 := Lib.hid (hIo.out.later hbo6 hzo)
          have HAm := Lib.hid (SeatI.am (hIo.out.later B5.out hzo) B56.out HO6.out Haml.out (Nat.le_trans hzo B5.out.size) (bt B67.out hbt.out))
          have G8 := Lib.hid ((hbo6.block _ Hzl.out).trans hgo.out)
          have hz8 := Nat.le_trans hzo hbo6.size
          have hTi := r11TiedG w3.heap.size _ _ _ T am (xn : Int) wt HI8.out.ti (fun b hb => hb.2.2.2) HAm.out Hxw.out hz8 (by rw [Hntt.out];omega)
          have HTi := Lib.hid hTi
          clear hTi hbo6
          go_wp2_with (first
           | (go_at_call 55;refine HTi.out.mono ?_;rintro e w9 ⟨vt9,rfl,k2,k3,k4,k5⟩;have HI9 := Lib.hid (HI8.out.tie k2 k3 k4 k5);have G9 := Lib.hid ((k4.block _ (qa0 G8.out) (fun e => own_notT HI8.out.ti G8.out e.symm)).trans G8.out);clear k2 k3 k4 k5)
           | (go_at_call 56;refine (r11Without _ _ inn (xn : Int) _ (Own.rsl HI9.out.le (by rw [Hni.out];omega)) (by rw [Hni.out];omega)).mono ?_;rintro e w10 ⟨vl10,rfl,ho,hb⟩;have HI10 := Lib.hid (HI9.out.drop ho hb HI9.out.below.size);have G10 := Lib.hid ((hb.block _ (qa0 G9.out)).trans G9.out);clear ho hb))
          exact ⟨⟨0 + 1,by omega,by go_num,Lib.hid (by rw [if_neg (by omega),S4.out,S5.out];exact HI10.out),G10⟩,by simp [intOf];omega⟩
       ·have hjo : j2 = no := by omega
        have hfin : (if j2 = 0 then (⟨L,[],TT⟩ : St) else ⟨inn2,[],T2⟩) = ⟨inn2,[],T2⟩ := by
         split
         ·rename_i h0
          obtain ⟨e1,e2⟩ := HD1.out.none (by rw [Hno.out,← hjo];exact h0)
          rw [Hne.out] at e1 e2
          rw [e1,e2,hL,hF,hTT]
         ·rfl
        rw [hfin] at hIo
        clear hfin
        go_wp2
        exact ⟨⟨k + 1,by omega,by go_num,Lib.hid (by rw [Hi2.out,HT2.out];exact hIo.out)⟩,by simp [intOf];omega⟩
   ·have hke : k = nr := by omega
    subst hke
    rw [Hrn.out] at hI
    obtain ⟨ai,ci,rfl⟩ := Own.shape hI.out.le
    obtain ⟨at_,ct,rfl⟩ := Own.shape hI.out.ti
    simp only [Hnt.out] at hI ⊢
    have hTi := r11Ties_eq Any Any (.slice b3 nt d3) _ S.ties wv (HTs.out.same (.of_below hb)) (RSl.mono (fun _ _ _ h => h.mono (fun _ _ => trivial)) (fun _ _ => trivial) (Own.rsl hI.out.ti (by rw [Hnt.out];omega)))
    have HTi := Lib.hid hTi;have Hbv := Lib.hid hb
    clear hTi hb hlt
    go_wp2_with (first
     | (go_at_call 58;refine HTi.out.mono ?_;rintro e w9 ⟨rfl,hb9⟩;have HB9 := Lib.hid hb9;clear hb9)
     | (go_at_call 27;refine (wakes19 _).mono ?_;rintro e w10 ⟨rfl,hb10⟩;have HB10 := Lib.hid hb10;clear hb10))
    go_ret
    exact ⟨rfl,bt Hb0.out (bt q3.out (bt Hbv.out (bt HB9.out HB10.out)))⟩
 ·have hm' : mayG p seats lot = false := by simp [mayG, h0]
  rw [hm',hW0] at hMay
  obtain ⟨cc,hcc⟩ : ∃ x,p.cands = x := ⟨_,rfl⟩
  obtain ⟨kk,hkk⟩ : ∃ x,p.kind = x := ⟨_,rfl⟩
  obtain ⟨nl,hnl⟩ : ∃ x,lot.length = x := ⟨_,rfl⟩
  rw [hcc,hkk,hnl] at hMay
  rw [hcc,hkk] at hW0
  rw [hcc,hkk,hnl]
  have HM := Lib.hid hMay;have Hb0 := Lib.hid hb0;have HW0 := Lib.hid hW0
  clear hMay hb0 hW0 hP hL h h1 hv h0 hm' hg0 hcc hkk hnl
  go_enter Tryz.func12,Tryz.ntmps12
  go_wp2_with (first
   | (go_at_call 25;refine HM.out.mono ?_;rintro e w1 ⟨rfl,hb⟩;rw [← HW0.out] at hb;have hq := bt Hb0.out hb;clear hb)
   | (go_at_call 27;refine (wakes19 _).mono ?_;rintro e w2 ⟨rfl,hb⟩))
  go_ret
  exact ⟨rfl,bt hq hb⟩
end

section
open Go Go.RowKit Go.ChangeShapes Go.WideShapes Go.ChangeAt

set_option maxRecDepth 100000 in
theorem meekRounds_lifted (os : Os) (started : os.Started) (H : Type) (enc : TypeId × Value → H) :
  ReturnsInHanded {} Tryz.checked os 12 .any (Rows.meekRoundsSpec.pre6 enc Tryz.prog Tryz.f12 Rows.meekRoundsRow.domain false) (Rows.meekRoundsSpec.post enc Tryz.prog Tryz.f12 false true false false) := by
 refine returnsInHanded_of_change_sized (C := Tryz.checked) Tryz.own started (by kernel_rfl) Tryz.func12
  (ChangeSpec.witness6 (enc := enc) (C := Tryz.checked) false ⟨#[],#[.agg #[.int .i64 0,.int .u8 0,.slice none 0 0],.int .i64 0,.slice none 0 0],[]⟩ 8 (by kernel_rfl) (by kernel_rfl) (by kernel_rfl) (by kernel_rfl)) ?_
 intro W base args ds gs before hval0 hW hcnd hsz0 _
 have hval : ∀ (j : Nat) t v,Tryz.f12.params[j]? = some t → args[j]? = some v → Value.okWide Tryz.prog W .any base t v := hval0
 have hsz : (DataW.weightsEach Tryz.prog (Tryz.f12.params.toList ++ Rows.meekRoundsSpec.plain.varTypes Tryz.prog) (ds ++ gs)).all (· ≤ reachBytes) = true := hsz0
 have hW' := hW
 obtain ⟨p,q,hA0,hV,rfl,hfz,hnd⟩ := hW
 have hA : DataW.TrodAll enc Tryz.prog W 0 (fun _ => true) true Tryz.f12.params.toList args.toList ds p := hA0
 rw [Tryz.params12] at hA hval hsz
 obtain ⟨v0,vs0,d0,ds0,p0,q0,hargs,rfl,rfl,h0,r0⟩ := trodAll_cons hA
 obtain ⟨v1,vs1,d1,ds1,p1,q1,rfl,rfl,rfl,h1,r1⟩ := trodAll_cons r0
 obtain ⟨v2,vs2,d2,ds2,p2,q2,rfl,rfl,rfl,h2,r2⟩ := trodAll_cons r1
 obtain ⟨rfl,rfl,rfl⟩ := trodAll_nil r2
 obtain rfl : args = #[v0,v1,v2] := by cases args;simp_all
 obtain ⟨rfl,rfl⟩ := trodVars_none hV
 have k0 := h0
 have k1 := h1
 have k2 := h2
 have lt0 : ∀ x ∈ p0,x.block < W.heap.size := by obtain ⟨m,hm⟩ := k0;exact DataW.trod_lt m _ _ _ hm
 have lt1 : ∀ x ∈ p1,x.block < W.heap.size := by obtain ⟨m,hm⟩ := k1;exact DataW.trod_lt m _ _ _ hm
 have lt2 : ∀ x ∈ p2,x.block < W.heap.size := by obtain ⟨m,hm⟩ := k2;exact DataW.trod_lt m _ _ _ hm
 obtain ⟨x0,y0⟩ := arg_prof (hval 0 _ v0 rfl rfl) h0 (weights_at hsz 0 rfl rfl)
 obtain ⟨x1,rfl,e1,e1',wf1⟩ := open_int Tryz.underlying3 (hval 1 _ v1 rfl rfl) h1
 obtain ⟨x2,y2⟩ := arg_ints (hval 2 _ v2 rfl rfl) h2 (weights_at hsz 2 rfl rfl)
 clear hA0 hval0
 refine (law_mrounds v0 v2 x0 x1 x2 W y0 wf1 y2).mono fun e W' ⟨he,bel⟩ => ?_
 subst he
 exact ⟨_,rfl,_,_,_,[],_,[],hW',trodAll_mk1 (shut_bool Tryz.underlying4 _),(trodAll_cons_mk (Below.trod Tryz.laidOut (by kernel_rfl) (of_decide_eq_true (by kernel_rfl)) k0 bel lt0) (trodAll_cons_mk (Below.trod Tryz.laidOut (by kernel_rfl) (of_decide_eq_true (by kernel_rfl)) k1 bel lt1) (trodAll_cons_mk (Below.trod Tryz.laidOut (by kernel_rfl) (of_decide_eq_true (by kernel_rfl)) k2 bel lt2) trodAll_mk0))),rfl,bel.frame _,fun h => by cases h⟩

theorem meekRounds_named : Tryz.prog.funcNamed Rows.meekRoundsRow.func = some 12 := by kernel_rfl
theorem meekRounds_facts : joinedFacts Tryz.prog 12 Tryz.f12 Rows.meekRoundsSpec Rows.meekRoundsRow = true := by kernel_rfl
theorem meekRounds_inst : Tryz.f12.isInstance Tryz.prog Rows.meekRoundsRow.origin Rows.meekRoundsRow.targs := of_decide_eq_true (by kernel_rfl)
theorem meekRounds_wrap : Tryz.f12.isWrapper Tryz.prog Rows.meekRoundsRow.wrapper Rows.meekRoundsRow.mainSum := by
 unfold Func.isWrapper
 rw [if_neg (of_decide_eq_false (by kernel_rfl))]
 exact ⟨rfl,rfl⟩
theorem meekRounds_holds : Rows.MeekRoundsSaid :=
 OpenClaim.holds_of_wide 12 Tryz.f12 rfl rfl rfl rfl rfl rfl rfl ⟨rfl,rfl,rfl,rfl,rfl⟩ rfl rfl rfl rfl rfl meekRounds_named Tryz.func12 meekRounds_facts
  meekRounds_inst meekRounds_wrap
  (fun os started H enc _ => meekRounds_lifted os started H enc)
#print axioms meekRounds_holds
end
end Go.Proofs.YthcbkhfmdginiaaGreat
