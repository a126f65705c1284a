/- The law MeekSeats returns true whatever the input, and every argument reads behind the call as it read before. No condition. -/
import Derived.Test.YthcbkhfmdginiaaGreatAGMeeW
import Derived.Test.YthcbkhfmdginiaaGreatRows
import Derived.Test.YthcbkhfmdginiaaGreatAGSam
import Derived.WalkKit
import Derived.ProofKit
import Derived.OpenShut
import Derived.ShutString
import Derived.ChangeOld
import Derived.Below

namespace Go.Proofs.YthcbkhfmdginiaaGreat
section
open Go Go.RowKit Go.Shelf Limb

structure SeatR (X : World) (rds : List Rnd) (k : Nat) (wr : World) (ve vg : Value) : Prop where
 e : Own X.heap.size 3 1 (dInt .i64) wr ve ((rds.take k).flatMap Rnd.elected)
 g : Own X.heap.size 3 1 (dInt .i64) wr vg ((rds.take k).flatMap gon)
 ap : ApartV ve vg
 b : Below X.heap.size X wr
theorem flat_take {f : Rnd → List Int} {rds : List Rnd} {k : Nat} (h : k < rds.length) : (rds.take (k + 1)).flatMap f = (rds.take k).flatMap f ++ f rds[k] := by
 rw [List.take_succ_eq_append_getElem h, List.flatMap_append]; simp
theorem flat_le {f : Rnd → List Int} {rds : List Rnd} {k : Nat} : ((rds.take k).flatMap f).length ≤ (rds.flatMap f).length := by
 conv => rhs; rw [← List.take_append_drop k rds]
 rw [List.flatMap_append, List.length_append]; omega
set_option maxHeartbeats 16000000 in
set_option maxRecDepth 100000 in
set_option linter.unusedSimpArgs false in
theorem law_mseats (u v : Value) (p : Prof) (seats : Int) (lot : List Int) (w : World) (h : VProf Any w u p) (_ : (Lit.int .i64 seats).wf = true) (hv : RInts Any w v lot) :
  Calls Tryz.prog 7 #[u, .int .i64 seats, v] w fun e w' => e = .returned (.bool true) ∧ Below w.heap.size w w' := by
 have h1 := h
 obtain ⟨a, m, c, rfl⟩ := h.agg
 obtain ⟨a2, c2, rfl, -, -⟩ := RSl.shape hv
 obtain ⟨W0, hW0⟩ : ∃ W0, W0 = w.alloc (.cells #[.int .i64 p.cands, .int .u8 p.kind, .slice a m c] 24) := ⟨_, rfl⟩
 have hb0 : Below w.heap.size w W0 := by rw [hW0]; exact qa1 w _
 have hg0 : W0.heap[w.heap.size]? = some (.cells #[.int .i64 p.cands, .int .u8 p.kind, .slice a m c] 24 (0, 0)) := by rw [hW0]; exact qa9 w _
 have hP := h1.same (.of_below hb0)
 have hL := hv.same (.of_below hb0)
 have hMay := l19May Any Any _ _ p seats lot W0 hP hL
 by_cases h0 : rankI p seats lot = 0
 ·have hm : mayG p seats lot = true := by simp [mayG, h0]
  rw [hm] at hMay
  obtain ⟨C, sn, hF⟩ := rankF h0
  obtain rfl := hF.seats
  have hll : lot.length = C := hF.lot.len
  have hc10 := hF.c10
  have hs1 := hF.s
  have hC10 : C ≤ 10 := hc10.2
  have hsn10 : sn ≤ 10 := by omega
  obtain ⟨k1, k2, k3, k4⟩ := meeF_end hF
  have hO := meeV_is hF h0
  obtain ⟨S, hS⟩ : ∃ S, meeS p sn lot C = S := ⟨_, rfl⟩
  rw [hS] at k1 k2 k3 k4 hO
  obtain ⟨nr, hnr⟩ : ∃ n, S.rounds.length = n := ⟨_, rfl⟩
  obtain ⟨nt, hnt⟩ : ∃ n, S.ties.length = n := ⟨_, rfl⟩
  rw [hnr] at k2
  rw [hnt] at k3
  have hCt := fun (W : World) (hW : Below W0.heap.size W0 W) => meeCountL Any Any _ _ p sn lot W _ (hP.same (.of_below hW)) (hL.same (.of_below hW)) h0 hO k1 hnr hnt
  have hLo := fun (W : World) (hW : Below W0.heap.size W0 W) => hL.same (.of_below hW)
  obtain ⟨kk, hkk⟩ : ∃ x, p.kind = x := ⟨_, rfl⟩
  have hgone : (S.rounds.flatMap gon).length ≤ 10 := by have := nodup_len k4.nodup k4.rng; omega
  have hels : (S.rounds.flatMap Rnd.elected).length ≤ 10 := by rw [k4.els, k1]; omega
  have hlast := k4.last k1
  simp only [hF.cands, hkk, hll] at hMay hCt hLo hW0 hg0 ⊢
  rw [hW0] at hMay
  have HM := Lib.hid hMay; have HCt := Lib.hid hCt; have HLo := Lib.hid hLo; have HW0 := Lib.hid hW0; have G0 := Lib.hid hg0; have Hb0 := Lib.hid hb0; have HF := Lib.hid hF; have Hll := Lib.hid hll; have HJ := Lib.hid k4; have Hel := Lib.hid k1; have Hnr := Lib.hid hnr; have Hnt := Lib.hid hnt; have HS := Lib.hid hS; have Hgone := Lib.hid hgone; have Hels := Lib.hid hels; have Hlast := Lib.hid hlast
  clear hgone hels hlast hMay hCt hLo hW0 hg0 hb0 hF hll k4 k1 hnr hnt hS hP hL h h1 hv hm h0 hO hkk hc10
  have st0 := Lib.hid True.intro
  have hnr1 : ¬ C < nr := by omega
  have hnt1 : ¬ C < nt := by omega
  go_enter Tryz.func7, Tryz.ntmps7
  go_upto_region 6 with (first | (have := st0; go_at_call 25; clear st0; refine HM.out.mono ?_; rintro e w1 ⟨rfl, hb⟩; rw [← HW0.out] at hb; have q1 := Lib.hid hb; obtain ⟨pa, pb, pc, pl⟩ := box3 G0.out hb; clear hb; have st1 := Lib.hid True.intro; clear this) | (have := st1; go_at_call 29; clear st1; refine (HCt.out _ q1.out).mono ?_; rintro e w2 ⟨b1, d1, b2, d2, b3, d3, rfl, kv, hb⟩; have q2 := Lib.hid (bt q1.out hb); have HV2 := Lib.hid kv; clear hb kv pa pb pc pl; obtain ⟨pa, pb, pc, pl⟩ := box3 G0.out q2.out; have st2 := Lib.hid True.intro; clear this))
  obtain ⟨X, hX⟩ : ∃ X, X = w2.alloc (.cells #[.slice b1 sn d1, .slice b2 nr d2, .slice b3 nt d3] 32) := ⟨_, rfl⟩
  have hbX : Below w2.heap.size w2 X := by rw [hX]; exact qa1 _ _
  have gX : X.heap[w2.heap.size]? = some (.cells #[.slice b1 sn d1, .slice b2 nr d2, .slice b3 nt d3] 32 (0, 0)) := by rw [hX]; exact qa9 _ _
  have hV := HV2.out.same (w' := X) (.of_below hbX)
  obtain ⟨hE, hR, -⟩ := hV.split
  rw [← hX]
  have QX := Lib.hid (bt q2.out hbX); have GX := Lib.hid gX; have HE := Lib.hid hE; have HR := Lib.hid hR.cut
  clear hX hbX gX hV hE hR pa pb pc pl
  obtain ⟨pa, pb, pc, pl⟩ := box3 G0.out QX.out
  obtain ⟨o0, o1, o2, ol⟩ := box3 GX.out (Below.refl _ X)
  go_wp2
  clear pa pb pc pl o0 o1 o2 ol
  go_loopw [9, 10, 11] (fun ve vg i wr => ∃ k : Nat, k ≤ nr ∧ i = .int .i64 k ∧ Hid (SeatR X S.rounds k wr ve vg)) (fun _ _ i _ => nr - (intOf i).toNat)
  case atStart => exact ⟨0, Nat.zero_le _, rfl, Lib.hid ⟨Own.nil _ _ _ _ _, Own.nil _ _ _ _ _, ApartV.nil _, Below.refl _ _⟩⟩
  case round =>
   obtain ⟨k, hk, rfl, hr⟩ := hrel
   obtain ⟨pa, pb, pc, pl⟩ := box3 G0.out (bt QX.out hr.out.b)
   obtain ⟨o0, o1, o2, ol⟩ := box3 GX.out hr.out.b
   by_cases hlt : k < nr
   ·have hlr : k < S.rounds.length := by rw [Hnr.out]; exact hlt
    obtain ⟨xb, xoff, xd0, xd1, xd2, xd3, xd4, xd5, rfl, -, xl, x0, x1, x2, x3, x4, x5, hx⟩ := RSl.at6 HR.out k hlr
    obtain ⟨xs0, xn0, xt0, xs2, xn2, xt2, xs3, xn3, xt3, xs4, xn4, xt4, xs5, xn5, xt5, rfl, rfl, rfl, rfl, rfl, rfl, v0, -, v4, v5⟩ := hx.open
    have hsm := Same.of_below (S := Any) hr.out.b
    replace x0 := hsm.cell trivial x0
    replace x1 := hsm.cell trivial x1
    replace x2 := hsm.cell trivial x2
    replace x3 := hsm.cell trivial x3
    replace x4 := hsm.cell trivial x4
    replace x5 := hsm.cell trivial x5
    have hxl : xb < wr.heap.size := Nat.lt_of_lt_of_le xl hr.out.b.size
    clear hsm
    have hst1 := flat_take (f := Rnd.elected) hlr
    have hst2 := flat_take (f := gon) hlr
    have hhad := HJ.out.had _ (List.getElem_mem hlr)
    have hway : (k + 1 < nr → one S.rounds[k]) ∧ (¬ k + 1 < nr → S.rounds[k].elected ≠ []) := by
     obtain ⟨l, r, e, h1, h2⟩ := Hlast.out
     have hnr := Hnr.out
     rw [e, List.length_append, List.length_cons, List.length_nil] at hnr
     constructor
     ·intro hk1
      have hkl : k < l.length := by omega
      have : S.rounds[k] = l[k] := by simp only [e]; exact List.getElem_append_left hkl
      rw [this]
      exact h1 _ (List.getElem_mem hkl)
     ·intro hk1
      have : S.rounds[k] = r := by
       simp only [e]
       rw [List.getElem_append_right (by omega)]
       simp
      rw [this]; exact h2
    have hle1 := flat_le (f := Rnd.elected) (rds := S.rounds) (k := k + 1)
    have hle2 := flat_le (f := gon) (rds := S.rounds) (k := k + 1)
    rw [hst1, List.length_append] at hle1
    rw [hst2, List.length_append] at hle2
    obtain ⟨r, hrr⟩ : ∃ r, S.rounds[k] = r := ⟨_, rfl⟩
    rw [hrr] at hst1 hst2 hhad hway hle1 hle2 v0 v4 v5 hx x1
    obtain rfl : xn0 = C := (RSl.len v0).trans hhad
    obtain ⟨ne, hne⟩ : ∃ n, r.elected.length = n := ⟨_, rfl⟩
    obtain ⟨no, hno⟩ : ∃ n, r.out.length = n := ⟨_, rfl⟩
    obtain rfl : xn4 = ne := (RSl.len v4).trans hne
    obtain rfl : xn5 = no := (RSl.len v5).trans hno
    have hG1 := Hgone.out
    have hE1 := Hels.out
    have hgl : (gon r).length = xn4 + xn5 := by rw [gon, List.length_append, hne, hno]
    have hb4 : xn4 ≤ 10 := by omega
    have hb5 : xn5 ≤ 10 := by omega
    obtain ⟨ae, ce, hve⟩ := Own.shape hr.out.e
    obtain ⟨ag, cg, hvg⟩ := Own.shape hr.out.g
    obtain ⟨me, hme⟩ : ∃ n, ((S.rounds.take k).flatMap Rnd.elected).length = n := ⟨_, rfl⟩
    obtain ⟨mg, hmg⟩ : ∃ n, ((S.rounds.take k).flatMap gon).length = n := ⟨_, rfl⟩
    rw [hme] at hve hle1
    rw [hmg] at hvg hle2
    subst hve hvg
    have hme10 : me ≤ 10 := by omega
    have hmg10 : mg ≤ 10 := by omega
    have e10 := hr.out.e; have g10 := hr.out.g; have a10 := hr.out.ap; have b10 := hr.out.b
    have V4 := Lib.hid v4; have V5 := Lib.hid v5
    obtain ⟨X1, hX1⟩ : ∃ W, W = wr.alloc (.cells #[.slice xs0 xn0 xt0, .bool r.lost.neg, .slice xs2 xn2 xt2, .slice xs3 xn3 xt3, .slice xs4 xn4 xt4, .slice xs5 xn5 xt5] 58) := ⟨_, rfl⟩
    have hbX1 : Below wr.heap.size wr X1 := by rw [hX1]; exact qa1 _ _
    have gX1 : X1.heap[wr.heap.size]? = some (.cells #[.slice xs0 xn0 xt0, .bool r.lost.neg, .slice xs2 xn2 xt2, .slice xs3 xn3 xt3, .slice xs4 xn4 xt4, .slice xs5 xn5 xt5] 58 (0, 0)) := by rw [hX1]; exact qa9 _ _
    have E0w := Lib.hid e10; have G0w := Lib.hid g10
    have KC : Hid (∀ W : World, W.heap[wr.heap.size]? = some (.cells #[.slice xs0 xn0 xt0, .bool r.lost.neg, .slice xs2 xn2 xt2, .slice xs3 xn3 xt3, .slice xs4 xn4 xt4, .slice xs5 xn5 xt5] 58 (0, 0)) → W.cell? ⟨wr.heap.size, 4, none⟩ = some (.slice xs4 xn4 xt4) ∧ W.cell? ⟨wr.heap.size, 5, none⟩ = some (.slice xs5 xn5 xt5) ∧ wr.heap.size < W.heap.size) := Lib.hid fun W h => ⟨(qa5 (Below.refl _ W) (qa0 h) h).2.1 4, (qa5 (Below.refl _ W) (qa0 h) h).2.1 5, qa0 h⟩
    have B1 := Lib.hid (b10.trans (hbX1.mono b10.size))
    have E1 := Lib.hid (Own.below (S := fun _ => False) (dInt.stable _ _) e10 hbX1)
    have G1 := Lib.hid (Own.below (S := fun _ => False) (dInt.stable _ _) g10 hbX1)
    have A1 := Lib.hid a10
    have Gr1 := Lib.hid gX1; have HX1 := Lib.hid hX1
    have Hst1 := Lib.hid hst1; have Hst2 := Lib.hid hst2; have Hme := Lib.hid hme; have Hmg := Lib.hid hmg; have Hne := Lib.hid hne; have Hno := Lib.hid hno
    have hlast2 : (k + 1 < nr ∧ xn4 + xn5 = 1) ∨ (¬ k + 1 < nr ∧ xn4 ≠ 0) := by
     by_cases hk1 : k + 1 < nr
     ·have := hway.1 hk1
      unfold one at this
      exact .inl ⟨hk1, by omega⟩
     ·exact .inr ⟨hk1, fun e => hway.2 hk1 (List.eq_nil_of_length_eq_zero (by omega))⟩
    have hnrw : IntKind.i64.wrap ((nr : Int) - 1) = (nr : Int) - 1 := i64_small15 (by omega) (by omega)
    have hsw : IntKind.i64.wrap ((xn4 : Int) + xn5) = (xn4 : Int) + xn5 := i64_small15 (by omega) (by omega)
    have hwr := b10.size
    clear hst1 hst2 hhad hway hle1 hle2 v0 v4 v5 hx hrr hne hno hG1 hE1 hgl hme hmg hlr hr e10 g10 a10 hX1 hbX1 gX1 b10
    have ht : (k + 1 < nr ∧ ((k : Int) == (nr : Int) - 1) = false ∧ ((xn4 : Int) + xn5 != 1) = false) ∨ (((k : Int) == (nr : Int) - 1) = true ∧ ((xn4 : Int) == 0) = false) := by
     rcases hlast2 with ⟨g1, g2⟩ | ⟨g1, g2⟩
     ·refine .inl ⟨g1, by simp; omega, by simp; omega⟩
     ·refine .inr ⟨by simp; omega, by simp; omega⟩
    clear hlast2
    rcases ht with ⟨ht0, ht1, ht2⟩ | ⟨ht1, ht2⟩
    all_goals
     go_upto_region 14 with fail
     rw [← HX1.out]
     clear x0 x1 x2 x3 x4 x5 pa pb pc pl o0 o1 o2 ol ht1 ht2
     obtain ⟨u2, u3, ul⟩ := KC.out X1 Gr1.out
     have sa0 := Lib.hid True.intro
     go_wp2_with (first
     | (have := sa2; at_builtin; clear sa2; go_must (refine wpList_appT _ Tryz.infoInt rfl rfl Tryz.underlying25 Hg5.out He5.out Ha5.out rfl (V5.out.same (.of_below HB5.out)) rfl (by have := Hmg.out; have := Hne.out; rw [List.length_append]; omega) (by have := Hno.out; omega) HB5.out ?_); intro a6 n6 c6 w6 ho6 hy6 ha6 hg6 hat6 hb6; have He6 := Lib.hid hy6; have Hg6 := Lib.hid ho6; have Ha6 := Lib.hid ha6.symm; have HB6 := Lib.hid hb6; clear ho6 hy6 ha6 hg6 hat6 hb6 this)
     | (have := sa1; at_builtin; clear sa1; go_must (refine wpList_appT _ Tryz.infoInt rfl rfl Tryz.underlying25 Hg4.out He4.out Ha4.out.symm rfl (V4.out.same (.of_below HB4.out)) rfl (by have := Hmg.out; omega) (by have := Hne.out; omega) HB4.out ?_); intro a5 n5 c5 w5 ho5 hy5 ha5 hg5 hat5 hb5; have He5 := Lib.hid hy5; have Hg5 := Lib.hid ho5; have Ha5 := Lib.hid ha5; have HB5 := Lib.hid hb5; have Gr5 := Lib.hid ((hg5.block _ (qa0 Gr4.out) (fun e => Nat.lt_irrefl _ (Own.lt G0w.out _ e.symm).2)).trans Gr4.out); obtain ⟨y2, y3, yl⟩ := KC.out w5 Gr5.out; clear z2 z3 zl ho5 hy5 ha5 hg5 hat5 hb5 this; have sa2 := Lib.hid True.intro)
     | (have := sa0; at_builtin; clear sa0; go_must (refine wpList_appT X1 Tryz.infoInt rfl rfl Tryz.underlying25 E1.out G1.out A1.out rfl (V4.out.same (.of_below B1.out)) rfl (by have := Hme.out; omega) (by have := Hne.out; omega) B1.out ?_); intro a4 n4 c4 w4 ho4 hy4 ha4 hg4 hat4 hb4; have He4 := Lib.hid ho4; have Hg4 := Lib.hid hy4; have Ha4 := Lib.hid ha4; have HB4 := Lib.hid hb4; have Gr4 := Lib.hid ((hg4.block _ (qa0 Gr1.out) (fun e => Nat.lt_irrefl _ (Own.lt E0w.out _ e.symm).2)).trans Gr1.out); obtain ⟨z2, z3, zl⟩ := KC.out w4 Gr4.out; clear u2 u3 ul ho4 hy4 ha4 hg4 hat4 hb4 this; have sa1 := Lib.hid True.intro))
     exact ⟨⟨k + 1, by omega, by go_num, Lib.hid ⟨by rw [Hst1.out]; exact He6.out, by rw [Hst2.out, gon, ← List.append_assoc]; exact Hg6.out, Ha6.out, HB6.out⟩⟩, by simp [intOf]; omega⟩
   ·obtain rfl : nr = k := by omega
    have hE3 := hr.out.e
    have hG3 := hr.out.g
    rw [List.take_of_length_le (by rw [Hnr.out]; exact Nat.le_refl _)] at hE3 hG3
    rw [HJ.out.els] at hE3
    have hnd := HJ.out.nodup
    have hrg := HJ.out.rng
    have hgl10 := Hgone.out
    obtain ⟨gl, hgl⟩ : ∃ l, S.rounds.flatMap gon = l := ⟨_, rfl⟩
    rw [hgl] at hG3 hnd hrg hgl10
    obtain ⟨ae, ce, hve⟩ := Own.shape hE3
    obtain ⟨ag, cg, hvg⟩ := Own.shape hG3
    obtain ⟨mg, hmg⟩ : ∃ n, gl.length = n := ⟨_, rfl⟩
    rw [Hel.out] at hve
    rw [hmg] at hvg hgl10
    subst hve hvg
    obtain ⟨w3, hw3⟩ : ∃ q, q = wr := ⟨_, rfl⟩
    rw [← hw3] at hE3 hG3 hr pa pb pc pl o0 o1 o2 ol ⊢
    have HG3 := Lib.hid (hG3.ints (by omega))
    have HE3 := Lib.hid (hE3.ints (by have := Hel.out; omega))
    have B3 := Lib.hid hr.out.b
    have Hnd := Lib.hid hnd; have Hrg := Lib.hid hrg; have Hmg := Lib.hid hmg
    clear hE3 hG3 hnd hrg hmg hr hw3 hgl
    go_wp2
    clear pa pb pc pl o0 o1 o2 ol
    go_loopw [14] (fun i wr => ∃ j : Nat, j ≤ mg ∧ i = .int .i64 j ∧ Hid (Below w3.heap.size w3 wr)) (fun i _ => mg - (intOf i).toNat)
    case atStart => exact ⟨0, Nat.zero_le _, rfl, Lib.hid (Below.refl _ _)⟩
    case round =>
     obtain ⟨j, hj, rfl, hb⟩ := hrel
     obtain ⟨pa, pb, pc, pl⟩ := box3 G0.out (bt QX.out (bt B3.out hb.out))
     by_cases hlt2 : j < mg
     ·have hjr : j < gl.length := by rw [Hmg.out]; exact hlt2
      have hGr := HG3.out.same (w' := wr) (.of_below hb.out)
      have hcap : j ≤ cg := by have h := RSl.cap hGr; rw [Hmg.out] at h; omega
      obtain ⟨gb, goff, gc, rfl, -, gl1, gcl, ghd⟩ := RSl.at1 hGr j hjr
      obtain ⟨rfl, -⟩ := ghd.open
      obtain ⟨y0, y1⟩ := Hrg.out _ (List.getElem_mem hjr)
      have hno : hasI (gl.take j) gl[j] = false := by
       rw [hasI, Bool.eq_false_iff]
       intro hc
       rw [List.contains_iff_mem] at hc
       obtain ⟨i, hi, e⟩ := List.getElem_of_mem hc
       rw [List.length_take] at hi
       rw [List.getElem_take] at e
       exact List.pairwise_iff_getElem.1 Hnd.out i j (by omega) hjr (by omega) e
      have hIn := fun q => in_c Any _ (gl.take j) gl[j] (ext wr q) (RInts.same (.of_below (qa4 wr q)) (RSl.take hGr j (by omega)))
      rw [hno] at hIn
      obtain ⟨y, hy⟩ : ∃ y, gl[j] = y := ⟨_, rfl⟩
      rw [hy] at gcl hIn y0 y1
      have e0 := fun q => qa8 (w := wr) gcl q
      have e1 := fun q => qa8 (w := wr) pa q
      have y2 : ¬ y < 0 := by omega
      have y3 : ¬ (C : Int) ≤ y := by omega
      have y4 : decide (y < 0) = false := decide_eq_false y2
      have y5 : decide ((C : Int) ≤ y) = false := decide_eq_false y3
      have HIn := Lib.hid hIn
      clear hIn hno hy hGr ghd hjr y0 y1 gcl pa pb pc pl
      go_wp2
      refine qa3 (by kernel_rfl) (by kernel_rfl) ?_
      repeat (go_big_quiet_step ((go_at_call 39; have hh := HIn.out; exact qaa (v := .bool false) (hh _))))
      refine wpQuiet_nil ?_
      intro w7 hw'
      have hb7 : Below wr.heap.size wr w7 := by obtain ⟨q, rfl⟩ := hw'; exact qa4 wr q
      clear hw' e0 e1 HIn
      have hb8 := Lib.hid (bt hb.out hb7)
      clear hb7
      go_wp2
      exact ⟨⟨j + 1, by omega, by go_num, hb8⟩, by simp [intOf]; omega⟩
     ·clear pa pb pc pl
      obtain ⟨o0, o1, o2, ol⟩ := box3 GX.out (bt B3.out hb.out)
      have hEr := HE3.out.same (w' := wr) (.of_below hb.out)
      have hE0 := HE.out.same (w' := wr) (.of_below (bt B3.out hb.out))
      have hIt := fun W (hW : Below wr.heap.size wr W) => ints_eq Any Any _ _ S.el W (hEr.same (.of_below hW)) (hE0.same (.of_below hW))
      have HIt := Lib.hid hIt
      clear hIt hEr hE0
      go_wp2_with (first
       | (go_at_call 24; refine (HIt.out _ (Below.refl _ _)).mono ?_; rintro e w8 ⟨rfl, hb8⟩; have HB8 := Lib.hid hb8; clear hb8)
       | (go_at_call 27; refine (wakes19 _).mono ?_; rintro e w9 ⟨rfl, hb9⟩; have HB9 := Lib.hid hb9; clear hb9))
      go_ret
      exact ⟨rfl, bt Hb0.out (bt QX.out (bt B3.out (bt hb.out (bt HB8.out HB9.out))))⟩
 ·have hm' : mayG p seats lot = false := by simp [mayG, h0]
  rw [hm', hW0] at hMay
  obtain ⟨cc, hcc⟩ : ∃ x, p.cands = x := ⟨_, rfl⟩
  obtain ⟨kk, hkk⟩ : ∃ x, p.kind = x := ⟨_, rfl⟩
  obtain ⟨nl, hnl⟩ : ∃ x, lot.length = x := ⟨_, rfl⟩
  rw [hcc, hkk, hnl] at hMay
  rw [hcc, hkk] at hW0
  rw [hcc, hkk, hnl]
  have HM := Lib.hid hMay; have Hb0 := Lib.hid hb0; have HW0 := Lib.hid hW0
  clear hMay hb0 hW0 hP hL h h1 hv h0 hm' hg0 hcc hkk hnl
  go_enter Tryz.func7, Tryz.ntmps7
  go_wp2_with (first
   | (go_at_call 25; refine HM.out.mono ?_; rintro e w1 ⟨rfl, hb⟩; rw [← HW0.out] at hb; have hq := bt Hb0.out hb; clear hb)
   | (go_at_call 27; refine (wakes19 _).mono ?_; rintro e w2 ⟨rfl, hb⟩))
  go_ret
  exact ⟨rfl, bt hq hb⟩
end

section
open Go Go.RowKit Go.ChangeShapes Go.WideShapes Go.ChangeAt

set_option maxRecDepth 100000 in
theorem meekSeats_lifted (os : Os) (started : os.Started) (H : Type) (enc : TypeId × Value → H) :
  ReturnsInHanded {} Tryz.checked os 7 .any (Rows.meekSeatsSpec.pre6 enc Tryz.prog Tryz.f7 Rows.meekSeatsRow.domain false) (Rows.meekSeatsSpec.post enc Tryz.prog Tryz.f7 false true false false) := by
 refine returnsInHanded_of_change_sized (C := Tryz.checked) Tryz.own started (by kernel_rfl) Tryz.func7
  (ChangeSpec.witness6 (enc := enc) (C := Tryz.checked) false ⟨#[], #[.agg #[.int .i64 0, .int .u8 0, .slice none 0 0], .int .i64 0, .slice none 0 0], []⟩ 8 (by kernel_rfl) (by kernel_rfl) (by kernel_rfl) (by kernel_rfl)) ?_
 intro W base args ds gs before hval0 hW hcnd hsz0 _
 have hval : ∀ (j : Nat) t v, Tryz.f7.params[j]? = some t → args[j]? = some v → Value.okWide Tryz.prog W .any base t v := hval0
 have hsz : (DataW.weightsEach Tryz.prog (Tryz.f7.params.toList ++ Rows.meekSeatsSpec.plain.varTypes Tryz.prog) (ds ++ gs)).all (· ≤ reachBytes) = true := hsz0
 have hW' := hW
 obtain ⟨p, q, hA0, hV, rfl, hfz, hnd⟩ := hW
 have hA : DataW.TrodAll enc Tryz.prog W 0 (fun _ => true) true Tryz.f7.params.toList args.toList ds p := hA0
 rw [Tryz.params7] at hA hval hsz
 obtain ⟨v0, vs0, d0, ds0, p0, q0, hargs, rfl, rfl, h0, r0⟩ := trodAll_cons hA
 obtain ⟨v1, vs1, d1, ds1, p1, q1, rfl, rfl, rfl, h1, r1⟩ := trodAll_cons r0
 obtain ⟨v2, vs2, d2, ds2, p2, q2, rfl, rfl, rfl, h2, r2⟩ := trodAll_cons r1
 obtain ⟨rfl, rfl, rfl⟩ := trodAll_nil r2
 obtain rfl : args = #[v0, v1, v2] := by cases args; simp_all
 obtain ⟨rfl, rfl⟩ := trodVars_none hV
 have k0 := h0
 have k1 := h1
 have k2 := h2
 have lt0 : ∀ x ∈ p0, x.block < W.heap.size := by obtain ⟨m, hm⟩ := k0; exact DataW.trod_lt m _ _ _ hm
 have lt1 : ∀ x ∈ p1, x.block < W.heap.size := by obtain ⟨m, hm⟩ := k1; exact DataW.trod_lt m _ _ _ hm
 have lt2 : ∀ x ∈ p2, x.block < W.heap.size := by obtain ⟨m, hm⟩ := k2; exact DataW.trod_lt m _ _ _ hm
 obtain ⟨x0, y0⟩ := arg_prof (hval 0 _ v0 rfl rfl) h0 (weights_at hsz 0 rfl rfl)
 obtain ⟨x1, rfl, e1, e1', wf1⟩ := open_int Tryz.underlying3 (hval 1 _ v1 rfl rfl) h1
 obtain ⟨x2, y2⟩ := arg_ints (hval 2 _ v2 rfl rfl) h2 (weights_at hsz 2 rfl rfl)
 clear hA0 hval0
 refine (law_mseats v0 v2 x0 x1 x2 W y0 wf1 y2).mono fun e W' ⟨he, bel⟩ => ?_
 subst he
 exact ⟨_, rfl, _, _, _, [], _, [], hW', trodAll_mk1 (shut_bool Tryz.underlying4 _), (trodAll_cons_mk (Below.trod Tryz.laidOut (by kernel_rfl) (of_decide_eq_true (by kernel_rfl)) k0 bel lt0) (trodAll_cons_mk (Below.trod Tryz.laidOut (by kernel_rfl) (of_decide_eq_true (by kernel_rfl)) k1 bel lt1) (trodAll_cons_mk (Below.trod Tryz.laidOut (by kernel_rfl) (of_decide_eq_true (by kernel_rfl)) k2 bel lt2) trodAll_mk0))), rfl, bel.frame _, fun h => by cases h⟩

theorem meekSeats_named : Tryz.prog.funcNamed Rows.meekSeatsRow.func = some 7 := by kernel_rfl
theorem meekSeats_facts : joinedFacts Tryz.prog 7 Tryz.f7 Rows.meekSeatsSpec Rows.meekSeatsRow = true := by kernel_rfl
theorem meekSeats_inst : Tryz.f7.isInstance Tryz.prog Rows.meekSeatsRow.origin Rows.meekSeatsRow.targs := of_decide_eq_true (by kernel_rfl)
theorem meekSeats_wrap : Tryz.f7.isWrapper Tryz.prog Rows.meekSeatsRow.wrapper Rows.meekSeatsRow.mainSum := by
 unfold Func.isWrapper
 rw [if_neg (of_decide_eq_false (by kernel_rfl))]
 exact ⟨rfl, rfl⟩
theorem meekSeats_holds : Rows.MeekSeatsSaid :=
 OpenClaim.holds_of_wide 7 Tryz.f7 rfl rfl rfl rfl rfl rfl rfl ⟨rfl, rfl, rfl, rfl, rfl⟩ rfl rfl rfl rfl rfl meekSeats_named Tryz.func7 meekSeats_facts
  meekSeats_inst meekSeats_wrap
  (fun os started H enc _ => meekSeats_lifted os started H enc)
#print axioms meekSeats_holds
end
end Go.Proofs.YthcbkhfmdginiaaGreat
