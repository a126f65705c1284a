/- The law MeekNames returns true whatever the input, and every argument reads behind the call as it read before. No condition. -/
import Derived.Test.YthcbkhfmdginiaaGreatAGMeeW
import Derived.Test.YthcbkhfmdginiaaGreatAGRen
import Derived.Test.YthcbkhfmdginiaaGreatAGMeeN
import Derived.Test.YthcbkhfmdginiaaGreatAGSam
import Derived.Test.YthcbkhfmdginiaaGreatAGWakG
import Derived.Test.YthcbkhfmdginiaaGreatRows
import Derived.WalkKit
import Derived.ProofKit
import Derived.OpenShut
import Derived.ShutString
import Derived.ChangeOld
import Derived.Below

namespace Go.Proofs.YthcbkhfmdginiaaGreat
section
open Go Go.RowKit Go.Shelf

theorem mee_tie {p : Prof} {seats : Int} {lot : List Int} {C sn : Nat} (h : RankF p seats lot C sn) (k : Nat) : ∀ t ∈ (meeS p sn lot k).ties, t.among.length ≤ C := by
 have hC : p.cands.toNat = C := by rw [h.cands, Int.toNat_natCast]
 unfold meeS
 rw [hC]
 exact run_tie h.lot h.s.2 k
theorem mee_modest {p : Prof} {lot : List Int} {C sn : Nat} (h : RankF p (sn : Int) lot C sn) (h0 : rankI p sn lot = 0) : Modest (meeV p sn lot) C := by
 rw [meeV_is h h0]
 obtain ⟨k1, k2, k3, k4⟩ := meeF_end h
 have hc := h.c10
 have hs := h.s
 have hgone : ((meeS p sn lot C).rounds.flatMap gon).length ≤ C := nodup_len k4.nodup k4.rng
 refine ⟨by simp only; omega, by simp only; omega, by simp only; omega, fun x hx => ?_, fun t ht => ?_⟩
 ·have hx' : x ∈ (meeS p sn lot C).rounds := hx
  have hl : (gon x).length ≤ ((meeS p sn lot C).rounds.flatMap gon).length := by
   obtain ⟨i, hi, rfl⟩ := List.getElem_of_mem hx'
   have := (List.sublist_flatten_of_mem (List.mem_map_of_mem (f := gon) (List.getElem_mem hi))).length_le
   rwa [← List.flatMap_def] at this
  rw [gon, List.length_append] at hl
  exact ⟨k4.had x hx', by omega, by omega⟩
 ·have := mee_tie h C t ht
  omega
set_option linter.unusedSimpArgs false in
set_option maxHeartbeats 16000000 in
set_option maxRecDepth 100000 in
theorem law_mnames (u v z : Value) (p : Prof) (seats : Int) (lot perm : List Int) (w : World) (h : VProf Any w u p) (_ : (Lit.int .i64 seats).wf = true) (hv : RInts Any w v lot) (hz : RInts Any w z perm) :
  Calls Tryz.prog 4 #[u, .int .i64 seats, v, z] w fun e w' => e = .returned (.bool true) ∧ Below w.heap.size w w' := by
 have h1 := h
 obtain ⟨a, m, c, rfl⟩ := h.agg
 obtain ⟨a2, c2, rfl, -, -⟩ := RSl.shape hv
 obtain ⟨a3, c3, rfl, -, -⟩ := RSl.shape hz
 obtain ⟨W0, hW0⟩ : ∃ W0, W0 = w.alloc (.cells #[.int .i64 p.cands, .int .u8 p.kind, .slice a m c] 24) := ⟨_, rfl⟩
 have hb0 : Below w.heap.size w W0 := by rw [hW0]; exact qa1 w _
 have hg0 : W0.heap[w.heap.size]? = some (.cells #[.int .i64 p.cands, .int .u8 p.kind, .slice a m c] 24 (0, 0)) := by rw [hW0]; exact qa9 w _
 have hP := h1.same (.of_below hb0)
 have hL := hv.same (.of_below hb0)
 have hZ := hz.same (.of_below hb0)
 have hMay := l19May Any Any _ _ p seats lot W0 hP hL
 by_cases h0 : rankI p seats lot = 0
 ·have hm : mayG p seats lot = true := by simp [mayG, h0]
  rw [hm] at hMay
  obtain ⟨C, sn, hF⟩ := rankF h0
  obtain rfl := hF.seats
  have hCn := hF.cands
  obtain ⟨c', kk, rows⟩ := p
  simp only at hCn
  subst hCn
  simp only at *
  have hlt := fun (W : World) (hW : Below W0.heap.size W0 W) => r11Lot Any _ perm (C : Int) W (hZ.same (.of_below hW))
  have hc10 := hF.c10
  by_cases hpl : lotR perm (C : Int) = true
  ·rw [hpl] at hlt
   rw [lotR_eq (by omega)] at hpl
   have hLo : LotOf perm C := by have := (lotB_iff.1 hpl).2; rwa [Int.toNat_natCast] at this
   have hlo : lot.length ≤ 1000000 := by have := hF.lot.len; omega
   obtain ⟨s1, s2⟩ := mee_ren rfl hLo h0
   have hmo := mee_modest hF h0
   have hck := hF.chk
   have hRe := fun (W : World) (hW : Below W0.heap.size W0 W) => profRename Any Any (C : Int) kk rows _ (.slice a3 perm.length c3) perm C W (hP.same (.of_below hW)) hck (hZ.same (.of_below hW)) hLo rfl
   have hCt := fun (W : World) (hW : Below W0.heap.size W0 W) => (meeCount_ok Any Any _ _ ⟨(C : Int), kk, rows⟩ sn lot W (hP.same (.of_below hW)) (hL.same (.of_below hW)) h0).mono fun e w' hh => GivesE.open hh
   have hNa := fun (W : World) (hW : Below W0.heap.size W0 W) => r11Names Any Any _ (.slice a3 perm.length c3) lot perm W (hL.same (.of_below hW)) (hZ.same (.of_below hW)) hlo
   obtain ⟨o, ho⟩ : ∃ o, meeV ⟨(C : Int), kk, rows⟩ sn lot = o := ⟨_, rfl⟩
   obtain ⟨R, hR⟩ : ∃ R, renR kk perm rows = R := ⟨_, rfl⟩
   have hnl : (namL perm lot).length ≤ 1000000 := by rw [qau]; exact hlo
   obtain ⟨nl, hnl2⟩ : ∃ l, namL perm lot = l := ⟨_, rfl⟩
   rw [hR, hnl2] at s1 s2
   rw [hnl2] at hNa hnl
   rw [ho] at s2 hCt hmo
   rw [hR] at hRe
   have hCt2 := fun (W : World) (S T : Nat → Prop) (u v : Value) (hu : VProf S W u ⟨(C : Int), kk, R⟩) (hv : RInts T W v nl) => (meeCount_ok S T u v ⟨(C : Int), kk, R⟩ sn nl W hu hv s1).mono fun e w' hh => GivesE.open hh
   rw [s2] at hCt2
   have hRn := fun (W : World) (hW : Below W0.heap.size W0 W) (x : Value) (hx : VOutc Any W x o) => r11Renamed Any Any x (.slice a3 perm.length c3) o perm C W hx (hZ.same (.of_below hW)) hLo (by omega) hmo
   obtain ⟨n2, hn2⟩ : ∃ n, lot.length = n := ⟨_, rfl⟩
   obtain ⟨n3, hn3⟩ : ∃ n, perm.length = n := ⟨_, rfl⟩
   obtain ⟨nR, hnR⟩ : ∃ n, R.length = n := ⟨_, rfl⟩
   rw [hn2] at hMay hCt hNa
   rw [hn3] at hlt hRe hNa hRn
   rw [hnR] at hRe
   rw [hn2, hn3]
   rw [hW0] at hMay
   have HM := Lib.hid hMay; have HLt := Lib.hid hlt; have HRe := Lib.hid hRe; have HCt := Lib.hid hCt; have HNa := Lib.hid hNa; have HCt2 := Lib.hid hCt2; have Hnl := Lib.hid (show nl.length ≤ 140737488355328 by omega); have HRn := Lib.hid hRn; have HW0 := Lib.hid hW0; have G0 := Lib.hid hg0; have Hb0 := Lib.hid hb0
   clear hMay hlt hRe hCt hNa hCt2 hRn hW0 hg0 hb0 s1 s2 hmo hck hF h0 hLo hlo hnl hnl2 ho hR hn2 hn3 hnR hP hL hZ h h1 hv hz hm hpl hc10
   go_enter Tryz.func4, Tryz.ntmps4
   have st0 := Lib.hid True.intro
   go_wp2_with (first
    | (have := st0; go_at_call 25; clear st0; refine HM.out.mono ?_; rintro e w1 ⟨rfl, hb⟩; rw [← HW0.out] at hb; have q1 := Lib.hid hb; obtain ⟨pa1, pb1, pc1, pl1⟩ := box3 G0.out hb; clear hb; have st1 := Lib.hid True.intro; clear this)
    | (have := st1; go_at_call 26; clear st1; refine (HLt.out _ q1.out).mono ?_; rintro e w1' ⟨rfl, rfl⟩; have st2 := Lib.hid True.intro; clear this)
    | (have := st2; go_at_call 28; clear st2; refine (HRe.out _ q1.out).mono ?_; rintro e w2 ⟨a9, c9, rfl, hq, hb⟩; have HQ := Lib.hid (hq.same (.of_below (qa1 w2 (.cells #[.int .i64 (C : Int), .int .u8 kk, .slice a9 nR c9] 24)))); have q2 := Lib.hid (bt q1.out hb); have q2' := Lib.hid (bt q2.out (qa1 w2 (.cells #[.int .i64 (C : Int), .int .u8 kk, .slice a9 nR c9] 24))); have G1 := Lib.hid (qa9 w2 (.cells #[.int .i64 (C : Int), .int .u8 kk, .slice a9 nR c9] 24)); obtain ⟨pa2, pb2, pc2, pl2⟩ := box3 G0.out q2.out; clear hq hb; have st3 := Lib.hid True.intro; clear this)
    | (have := st3; go_at_call 29; clear st3; refine (HCt.out _ q2'.out).mono ?_; rintro e w3 ⟨b1, m1, d1, b2, m2, d2, b3, m3, d3, rfl, hk, hb⟩; have B3 := Lib.hid hb; have HK := Lib.hid hk; have q3 := Lib.hid (bt q2'.out hb); clear hk hb; have st4 := Lib.hid True.intro; clear this))
   obtain ⟨W3, hW3⟩ : ∃ W3, W3 = w3.alloc (.cells #[.slice b1 m1 d1, .slice b2 m2 d2, .slice b3 m3 d3] 32) := ⟨_, rfl⟩
   have hb3 : Below w3.heap.size w3 W3 := by rw [hW3]; exact qa1 _ _
   have g2 : W3.heap[w3.heap.size]? = some (.cells #[.slice b1 m1 d1, .slice b2 m2 d2, .slice b3 m3 d3] 32 (0, 0)) := by rw [hW3]; exact qa9 _ _
   have q4 := Lib.hid (bt q3.out hb3)
   have HK3 := Lib.hid (VOutc.mono (T := Any) (fun _ _ => trivial) (HK.out.same (.of_below hb3)))
   have HB3 := Lib.hid (bt B3.out hb3)
   have hS0 : ∀ W, Below W3.heap.size W3 W → (fun w' : World => w'.cell? ⟨w2.heap.size, 0, none⟩ = some (.int .i64 (C : Int)) ∧ w'.cell? ⟨w2.heap.size, 1, none⟩ = some (.int .u8 kk) ∧ w'.cell? ⟨w2.heap.size, 2, none⟩ = some (.slice a9 nR c9)) W := fun W hW => by
    obtain ⟨j1, j2, j3, -⟩ := box3 G1.out (bt HB3.out hW)
    exact ⟨j1, j2, j3⟩
   have HS0 := Lib.hid hS0; have G2 := Lib.hid g2
   rw [← hW3]
   clear hb3 g2 hS0 hW3 HK B3 q3
   go_cut [13, 14] from 41 to 50 (fun s15 s16 wc => CntR W3 (renO perm o) s15 s16 wc)
   case first =>
    refine qal (S := (fun w' : World => w'.cell? ⟨w2.heap.size, 0, none⟩ = some (.int .i64 (C : Int)) ∧ w'.cell? ⟨w2.heap.size, 1, none⟩ = some (.int .u8 kk) ∧ w'.cell? ⟨w2.heap.size, 2, none⟩ = some (.slice a9 nR c9))) (L := []) (by kernel_rfl) (HS0.out _ (Below.drew (Below.refl _ _))) (fun hHeld => ?_)
    refine tk 0 ?_ rfl hHeld ?_ ?_; rotate_left
    ·intro w hSw; (try dsimp only at hSw); go_simp; try (with_reducible rfl)
    (try simp only [la, lb, lc, ld, lf, lg, lh])
    refine tk 1 ?_ rfl hHeld ?_ ?_; rotate_left
    ·intro w hSw; (try dsimp only at hSw); go_simp; try (with_reducible rfl)
    (try simp only [la, lb, lc, ld, lf, lg, lh])
    refine tk 2 ?_ rfl hHeld ?_ ?_; rotate_left
    ·intro w hSw; (try dsimp only at hSw); go_simp; try (with_reducible rfl)
    (try simp only [la, lb, lc, ld, lf, lg, lh])
    refine tk 3 ?_ rfl hHeld ?_ ?_; rotate_left
    ·intro w hSw; (try dsimp only at hSw); go_simp; try (with_reducible rfl)
    (try simp only [la, lb, lc, ld, lf, lg, lh])
    refine wpAnyL_two (i := 4) (j := 9) (by kernel_rfl) rfl rfl (fun K hK => ?_) (fun K hK => ?_)
    ·
     (go_simp; go_at_call 30; refine (HNa.out _ (bt q4.out (Below.drew (Below.refl _ W3)))).mono ?_; rintro e w5 ⟨v5, rfl, ho, hb5⟩; obtain ⟨a5, m5, c5, rfl⟩ := Own.slice ho; have HO5 := Lib.hid (Own.rsl ho Hnl.out); have B5 := Lib.hid (bt (Below.drew (Below.refl _ W3)) hb5); have T5 := Lib.hid hb5; clear ho hb5)
     refine hK.out _ _ (HS0.out _ B5.out) (fun hHeld => ?_)
     clear hK K
     (try simp only [la, lb, lc, ld, lf, lg, lh])
     refine wpAnyL_two (i := 5) (j := 9) (by kernel_rfl) rfl rfl (fun K hK => ?_) (fun K hK => ?_)
     ·
      (go_simp; go_at_call 29; refine (HCt2.out _ _ _ _ _ (HQ.out.same (.of_below (bt HB3.out B5.out))) HO5.out).mono ?_; rintro e w6 ⟨b1', m1', d1', b2', m2', d2', b3', m3', d3', rfl, hk, hb6⟩; have HK6 := Lib.hid hk; have B6 := Lib.hid (bt B5.out hb6); have T6 := Lib.hid hb6; clear hk hb6)
      refine hK.out _ _ (HS0.out _ B6.out) (fun hHeld => ?_)
      clear hK K
      (try simp only [la, lb, lc, ld, lf, lg, lh])
      refine tk 6 ?_ rfl hHeld ?_ ?_; rotate_left
      ·intro w hSw; (try dsimp only at hSw); go_simp; try (with_reducible rfl)
      (try simp only [la, lb, lc, ld, lf, lg, lh])
      refine tk 7 ?_ rfl hHeld ?_ ?_; rotate_left
      ·intro w hSw; (try dsimp only at hSw); go_simp; try (with_reducible rfl)
      (try simp only [la, lb, lc, ld, lf, lg, lh])
      refine tk 8 ?_ rfl hHeld ?_ ?_; rotate_left
      ·intro w hSw; (try dsimp only at hSw); go_simp; try (with_reducible rfl)
      (try simp only [la, lb, lc, ld, lf, lg, lh])
      refine qa7 (i := 9) (by kernel_rfl) rfl (fun K hK => ?_)
      go_simp
      refine hK.out _ _ (HS0.out _ (bt B6.out (qa1 _ _))) (fun hHeld => ?_)
      clear hK K
      (try simp only [la, lb, lc, ld, lf, lg, lh])
      refine qa7 (i := 10) (by kernel_rfl) rfl (fun K hK => ?_)
      go_simp
      refine hK.out _ _ (HS0.out _ (bt B6.out (by first | exact qa1 _ _ | exact ((((qa1 _ _).setCell (p := ⟨w6.heap.size, 0, none⟩) (Nat.le_refl _) _).setCell (p := ⟨w6.heap.size, 1, none⟩) (Nat.le_refl _) _).setCell (p := ⟨w6.heap.size, 2, none⟩) (Nat.le_refl _) _)))) (fun hHeld => ?_)
      clear hK K
      (try simp only [la, lb, lc, ld, lf, lg, lh])
      refine tk 11 ?_ rfl hHeld ?_ ?_; rotate_left
      ·intro w hSw; (try dsimp only at hSw); go_simp; try (with_reducible rfl)
      (try simp only [la, lb, lc, ld, lf, lg, lh])
      refine qai (by kernel_rfl) ?_ _
      go_wp2_with fail
      go_meet
      first | exact CntR.late HK6.out B6.out | exact CntR.laid HK6.out B6.out
     ·
      go_simp
      refine hK.out _ _ (HS0.out _ (bt B5.out (qa1 _ _))) (fun hHeld => ?_)
      clear hK K
      (try simp only [la, lb, lc, ld, lf, lg, lh])
      refine qa7 (i := 5) (by kernel_rfl) rfl (fun K hK => ?_)
      (go_simp; go_at_call 29; refine (HCt2.out _ _ _ _ _ (HQ.out.same (.of_below (bt HB3.out (bt B5.out (qa1 w5 (.cells #[.slice none 0 0, .slice none 0 0, .slice none 0 0] 32)))))) (RInts.same (.of_below (qa1 _ _)) HO5.out)).mono ?_; rintro e w6 ⟨b1', m1', d1', b2', m2', d2', b3', m3', d3', rfl, hk, hb6⟩; have HK6 := Lib.hid hk; have B6 := Lib.hid (bt (bt B5.out (qa1 w5 (.cells #[.slice none 0 0, .slice none 0 0, .slice none 0 0] 32))) hb6); have T6 := Lib.hid hb6; clear hk hb6)
      refine hK.out _ _ (HS0.out _ B6.out) (fun hHeld => ?_)
      clear hK K
      (try simp only [la, lb, lc, ld, lf, lg, lh])
      refine tk 6 ?_ rfl hHeld ?_ ?_; rotate_left
      ·intro w hSw; (try dsimp only at hSw); go_simp; try (with_reducible rfl)
      (try simp only [la, lb, lc, ld, lf, lg, lh])
      refine tk 7 ?_ rfl hHeld ?_ ?_; rotate_left
      ·intro w hSw; (try dsimp only at hSw); go_simp; try (with_reducible rfl)
      (try simp only [la, lb, lc, ld, lf, lg, lh])
      refine tk 8 ?_ rfl hHeld ?_ ?_; rotate_left
      ·intro w hSw; (try dsimp only at hSw); go_simp; try (with_reducible rfl)
      (try simp only [la, lb, lc, ld, lf, lg, lh])
      have gA := Lib.hid ((T6.out.block _ (by simp)).trans (qa9 w5 (.cells #[.slice none 0 0, .slice none 0 0, .slice none 0 0] 32)))
      obtain ⟨-, zA, fA⟩ := qa5 (Below.refl _ w6) (qa0 gA.out) gA.out
      have zA0 := zA 0; have zA1 := zA 1; have zA2 := zA 2; have fA0 := fA 0; have fA1 := fA 1; have fA2 := fA 2
      clear zA fA
      refine qa7 (i := 10) (by kernel_rfl) rfl (fun K hK => ?_)
      go_simp
      refine hK.out _ _ (HS0.out _ (((B6.out.setCell (p := ⟨w5.heap.size, 0, none⟩) B5.out.size _).setCell (p := ⟨w5.heap.size, 1, none⟩) B5.out.size _).setCell (p := ⟨w5.heap.size, 2, none⟩) B5.out.size _)) (fun hHeld => ?_)
      clear hK K
      (try simp only [la, lb, lc, ld, lf, lg, lh])
      refine tk 11 ?_ rfl hHeld ?_ ?_; rotate_left
      ·intro w hSw; (try dsimp only at hSw); go_simp; try (with_reducible rfl)
      (try simp only [la, lb, lc, ld, lf, lg, lh])
      refine qai (by kernel_rfl) ?_ _
      go_wp2_with fail
      go_meet
      exact CntR.stored rfl gA.out (VOutc.mono (T := fun b => b ≠ w5.heap.size) (fun b hb => by have h : (w5.alloc (.cells #[.slice none 0 0, .slice none 0 0, .slice none 0 0] 32)).heap.size ≤ b := hb; rw [World.size_alloc] at h; omega) HK6.out) B6.out B5.out.size
    ·
     go_simp
     refine hK.out _ _ (HS0.out _ (qa1 W3 (.cells #[.slice none 0 0, .slice none 0 0, .slice none 0 0] 32)).drew) (fun hHeld => ?_)
     clear hK K
     (try simp only [la, lb, lc, ld, lf, lg, lh])
     refine qa7 (i := 4) (by kernel_rfl) rfl (fun K hK => ?_)
     (go_simp; go_at_call 30; refine (HNa.out _ (bt q4.out (qa1 W3 (.cells #[.slice none 0 0, .slice none 0 0, .slice none 0 0] 32)).drew)).mono ?_; rintro e w5 ⟨v5, rfl, ho, hb5⟩; obtain ⟨a5, m5, c5, rfl⟩ := Own.slice ho; have HO5 := Lib.hid (Own.rsl ho Hnl.out); have B5 := Lib.hid (bt (qa1 W3 (.cells #[.slice none 0 0, .slice none 0 0, .slice none 0 0] 32)).drew hb5); have T5 := Lib.hid hb5; clear ho hb5)
     refine hK.out _ _ (HS0.out _ B5.out) (fun hHeld => ?_)
     clear hK K
     (try simp only [la, lb, lc, ld, lf, lg, lh])
     refine qa7 (i := 5) (by kernel_rfl) rfl (fun K hK => ?_)
     (go_simp; go_at_call 29; refine (HCt2.out _ _ _ _ _ (HQ.out.same (.of_below (bt HB3.out B5.out))) HO5.out).mono ?_; rintro e w6 ⟨b1', m1', d1', b2', m2', d2', b3', m3', d3', rfl, hk, hb6⟩; have HK6 := Lib.hid hk; have B6 := Lib.hid (bt B5.out hb6); have T6 := Lib.hid hb6; clear hk hb6)
     refine hK.out _ _ (HS0.out _ B6.out) (fun hHeld => ?_)
     clear hK K
     (try simp only [la, lb, lc, ld, lf, lg, lh])
     refine tk 6 ?_ rfl hHeld ?_ ?_; rotate_left
     ·intro w hSw; (try dsimp only at hSw); go_simp; try (with_reducible rfl)
     (try simp only [la, lb, lc, ld, lf, lg, lh])
     refine tk 7 ?_ rfl hHeld ?_ ?_; rotate_left
     ·intro w hSw; (try dsimp only at hSw); go_simp; try (with_reducible rfl)
     (try simp only [la, lb, lc, ld, lf, lg, lh])
     refine tk 8 ?_ rfl hHeld ?_ ?_; rotate_left
     ·intro w hSw; (try dsimp only at hSw); go_simp; try (with_reducible rfl)
     (try simp only [la, lb, lc, ld, lf, lg, lh])
     have gA := Lib.hid ((bt T5.out T6.out).block _ (by simp) |>.trans (qa9 W3 (.cells #[.slice none 0 0, .slice none 0 0, .slice none 0 0] 32)))
     obtain ⟨-, zA, fA⟩ := qa5 (Below.refl _ w6) (qa0 gA.out) gA.out
     have zA0 := zA 0; have zA1 := zA 1; have zA2 := zA 2; have fA0 := fA 0; have fA1 := fA 1; have fA2 := fA 2
     clear zA fA
     refine qa7 (i := 10) (by kernel_rfl) rfl (fun K hK => ?_)
     go_simp
     refine hK.out _ _ (HS0.out _ (((B6.out.setCell (p := ⟨W3.heap.size, 0, none⟩) (Nat.le_refl _) _).setCell (p := ⟨W3.heap.size, 1, none⟩) (Nat.le_refl _) _).setCell (p := ⟨W3.heap.size, 2, none⟩) (Nat.le_refl _) _)) (fun hHeld => ?_)
     clear hK K
     (try simp only [la, lb, lc, ld, lf, lg, lh])
     refine tk 11 ?_ rfl hHeld ?_ ?_; rotate_left
     ·intro w hSw; (try dsimp only at hSw); go_simp; try (with_reducible rfl)
     (try simp only [la, lb, lc, ld, lf, lg, lh])
     refine qai (by kernel_rfl) ?_ _
     go_wp2_with fail
     go_meet
     exact CntR.stored rfl gA.out (VOutc.mono (fun b hb => by have h5 := T5.out.size; have h : w5.heap.size ≤ b := hb; simp at h5; omega) HK6.out) B6.out (Nat.le_refl _)
   case rest =>
    obtain ⟨g, b1', n1', d1', b2', n2', d2', b3', n3', d3', rfl, rfl, hbx, hV, hbc⟩ := hcut
    have q5 := bt q4.out hbc
    have hRn2 := fun W (hW : Below wc.heap.size wc W) => HRn.out W (bt q5 hW) _ (HK3.out.same (.of_below (bt hbc hW)))
    have hS2 : ∀ W, Below wc.heap.size wc W → (fun w' : World => w'.cell? ⟨g, 0, none⟩ = some (.slice b1' n1' d1') ∧ w'.cell? ⟨g, 1, none⟩ = some (.slice b2' n2' d2') ∧ w'.cell? ⟨g, 2, none⟩ = some (.slice b3' n3' d3') ∧ w'.cell? ⟨w3.heap.size, 0, none⟩ = some (.slice b1 m1 d1) ∧ w'.cell? ⟨w3.heap.size, 1, none⟩ = some (.slice b2 m2 d2) ∧ w'.cell? ⟨w3.heap.size, 2, none⟩ = some (.slice b3 m3 d3)) W := fun W hW => by
     obtain ⟨j1, j2, j3, -⟩ := box3 hbx hW
     obtain ⟨j4, j5, j6, -⟩ := box3 G2.out (bt hbc hW)
     exact ⟨j1, j2, j3, j4, j5, j6⟩
    have HRn2 := Lib.hid hRn2; have HS2 := Lib.hid hS2; have HV := Lib.hid hV; have q6 := Lib.hid q5
    clear hRn2 hS2 hV hbx hbc q5 pa1 pb1 pc1 pl1 pa2 pb2 pc2 pl2
    go_wp2
    refine qal (S := (fun w' : World => w'.cell? ⟨g, 0, none⟩ = some (.slice b1' n1' d1') ∧ w'.cell? ⟨g, 1, none⟩ = some (.slice b2' n2' d2') ∧ w'.cell? ⟨g, 2, none⟩ = some (.slice b3' n3' d3') ∧ w'.cell? ⟨w3.heap.size, 0, none⟩ = some (.slice b1 m1 d1) ∧ w'.cell? ⟨w3.heap.size, 1, none⟩ = some (.slice b2 m2 d2) ∧ w'.cell? ⟨w3.heap.size, 2, none⟩ = some (.slice b3 m3 d3))) (L := []) (by kernel_rfl) (HS2.out _ (Below.drew (Below.refl _ _))) (fun hHeld => ?_)
    refine tk 0 ?_ rfl hHeld ?_ ?_; rotate_left
    ·intro w hSw; (try dsimp only at hSw); go_simp; try (with_reducible rfl)
    (try simp only [la, lb, lc, ld, lf, lg, lh])
    refine tk 1 ?_ rfl hHeld ?_ ?_; rotate_left
    ·intro w hSw; (try dsimp only at hSw); go_simp; try (with_reducible rfl)
    (try simp only [la, lb, lc, ld, lf, lg, lh])
    refine tk 2 ?_ rfl hHeld ?_ ?_; rotate_left
    ·intro w hSw; (try dsimp only at hSw); go_simp; try (with_reducible rfl)
    (try simp only [la, lb, lc, ld, lf, lg, lh])
    refine tk 3 ?_ rfl hHeld ?_ ?_; rotate_left
    ·intro w hSw; (try dsimp only at hSw); go_simp; try (with_reducible rfl)
    (try simp only [la, lb, lc, ld, lf, lg, lh])
    refine tk 4 ?_ rfl hHeld ?_ ?_; rotate_left
    ·intro w hSw; (try dsimp only at hSw); go_simp; try (with_reducible rfl)
    (try simp only [la, lb, lc, ld, lf, lg, lh])
    refine tk 5 ?_ rfl hHeld ?_ ?_; rotate_left
    ·intro w hSw; (try dsimp only at hSw); go_simp; try (with_reducible rfl)
    (try simp only [la, lb, lc, ld, lf, lg, lh])
    refine tk 6 ?_ rfl hHeld ?_ ?_; rotate_left
    ·intro w hSw; (try dsimp only at hSw); go_simp; try (with_reducible rfl)
    (try simp only [la, lb, lc, ld, lf, lg, lh])
    refine tk 7 ?_ rfl hHeld ?_ ?_; rotate_left
    ·intro w hSw; (try dsimp only at hSw); go_simp; try (with_reducible rfl)
    (try simp only [la, lb, lc, ld, lf, lg, lh])
    refine tk 8 ?_ rfl hHeld ?_ ?_; rotate_left
    ·intro w hSw; (try dsimp only at hSw); go_simp; try (with_reducible rfl)
    (try simp only [la, lb, lc, ld, lf, lg, lh])
    refine tk 9 ?_ rfl hHeld ?_ ?_; rotate_left
    ·intro w hSw; (try dsimp only at hSw); go_simp; try (with_reducible rfl)
    (try simp only [la, lb, lc, ld, lf, lg, lh])
    refine tk 10 ?_ rfl hHeld ?_ ?_; rotate_left
    ·intro w hSw; (try dsimp only at hSw); go_simp; try (with_reducible rfl)
    (try simp only [la, lb, lc, ld, lf, lg, lh])
    refine tk 11 ?_ rfl hHeld ?_ ?_; rotate_left
    ·intro w hSw; (try dsimp only at hSw); go_simp; try (with_reducible rfl)
    (try simp only [la, lb, lc, ld, lf, lg, lh])
    refine tk 12 ?_ rfl hHeld ?_ ?_; rotate_left
    ·intro w hSw; (try dsimp only at hSw); go_simp; try (with_reducible rfl)
    (try simp only [la, lb, lc, ld, lf, lg, lh])
    refine tk 13 ?_ rfl hHeld ?_ ?_; rotate_left
    ·intro w hSw; (try dsimp only at hSw); go_simp; try (with_reducible rfl)
    (try simp only [la, lb, lc, ld, lf, lg, lh])
    refine qa7 (i := 14) (by kernel_rfl) rfl (fun K hK => ?_)
    (go_simp; go_at_call 31; refine (HRn2.out _ (Below.drew (Below.refl _ wc))).mono ?_; rintro e w7 ⟨x1, y1, z1, x2, y2, z2, x3, y3, z3, rfl, hv7, hb7⟩; have HV7 := Lib.hid hv7; have B7 := Lib.hid hb7; clear hv7 hb7)
    refine hK.out _ _ (HS2.out _ ((Below.drew (Below.refl _ wc)).trans B7.out)) (fun hHeld => ?_)
    clear hK K
    (try simp only [la, lb, lc, ld, lf, lg, lh])
    refine qa7 (i := 15) (by kernel_rfl) rfl (fun K hK => ?_)
    (go_simp; go_at_call 22; refine (r11Same_eq Any Any _ _ _ _ (HV.out.same (.of_below ((Below.drew (Below.refl _ wc)).trans B7.out))) HV7.out).mono ?_; rintro e w8 ⟨rfl, hb8⟩; have B8 := Lib.hid (bt ((Below.drew (Below.refl _ wc)).trans B7.out) hb8); clear hb8)
    refine hK.out _ _ (HS2.out _ B8.out) (fun hHeld => ?_)
    clear hK K
    (try simp only [la, lb, lc, ld, lf, lg, lh])
    refine tk 16 ?_ rfl hHeld ?_ ?_; rotate_left
    ·intro w hSw; (try dsimp only at hSw); go_simp; try (with_reducible rfl)
    (try simp only [la, lb, lc, ld, lf, lg, lh])
    refine tk 17 ?_ rfl hHeld ?_ ?_; rotate_left
    ·intro w hSw; (try dsimp only at hSw); go_simp; try (with_reducible rfl)
    (try simp only [la, lb, lc, ld, lf, lg, lh])
    refine qa7 (i := 18) (by kernel_rfl) rfl (fun K hK => ?_)
    (go_simp; go_at_call 27; refine (wakes19 _).mono ?_; rintro e w9 ⟨rfl, hb9⟩; have B9 := Lib.hid (bt B8.out hb9); clear hb9)
    refine hK.out _ _ (HS2.out _ B9.out) (fun hHeld => ?_)
    clear hK K
    (try simp only [la, lb, lc, ld, lf, lg, lh])
    refine tk 19 ?_ rfl hHeld ?_ ?_; rotate_left
    ·intro w hSw; (try dsimp only at hSw); go_simp; try (with_reducible rfl)
    (try simp only [la, lb, lc, ld, lf, lg, lh])
    refine tk 20 ?_ rfl hHeld ?_ ?_; rotate_left
    ·intro w hSw; (try dsimp only at hSw); go_simp; try (with_reducible rfl)
    (try simp only [la, lb, lc, ld, lf, lg, lh])
    refine qai (by kernel_rfl) ?_ _
    go_wp2
    go_ret
    exact ⟨rfl, bt Hb0.out (bt q6.out B9.out)⟩
  ·have hpl' : lotR perm (C : Int) = false := by simpa using hpl
   rw [hpl'] at hlt
   obtain ⟨n2, hn2⟩ : ∃ n, lot.length = n := ⟨_, rfl⟩
   obtain ⟨n3, hn3⟩ : ∃ n, perm.length = n := ⟨_, rfl⟩
   rw [hn2] at hMay
   rw [hn3] at hlt
   rw [hn2, hn3]
   rw [hW0] at hMay
   have HM := Lib.hid hMay; have HLt := Lib.hid hlt; have HW0 := Lib.hid hW0; have G0 := Lib.hid hg0; have Hb0 := Lib.hid hb0
   clear hMay hlt hW0 hg0 hb0 hF h0 hn2 hn3 hP hL hZ h h1 hv hz hm hpl hpl' hc10
   go_enter Tryz.func4, Tryz.ntmps4
   have st0 := Lib.hid True.intro
   go_wp2_with (first
    | (have := st0; go_at_call 25; clear st0; refine HM.out.mono ?_; rintro e w1 ⟨rfl, hb⟩; rw [← HW0.out] at hb; have q1 := Lib.hid hb; obtain ⟨pa1, pb1, pc1, pl1⟩ := box3 G0.out hb; clear hb; have st1 := Lib.hid True.intro; clear this)
    | (have := st1; go_at_call 26; clear st1; refine (HLt.out _ q1.out).mono ?_; rintro e w1' ⟨rfl, rfl⟩; have st2 := Lib.hid True.intro; clear this)
    | (have := st2; go_at_call 27; clear st2; refine (wakes19 _).mono ?_; rintro e w2 ⟨rfl, hb⟩; have q2 := Lib.hid (bt q1.out hb); clear hb; clear this))
   go_ret
   exact ⟨rfl, bt Hb0.out q2.out⟩
 ·have hm' : mayG p seats lot = false := by simp [mayG, h0]
  rw [hm', hW0] at hMay
  obtain ⟨cc, hcc⟩ : ∃ x, p.cands = x := ⟨_, rfl⟩
  obtain ⟨kk, hkk⟩ : ∃ x, p.kind = x := ⟨_, rfl⟩
  obtain ⟨nl, hnl⟩ : ∃ x, lot.length = x := ⟨_, rfl⟩
  obtain ⟨n3, hn3⟩ : ∃ n, perm.length = n := ⟨_, rfl⟩
  rw [hcc, hkk, hnl] at hMay
  rw [hcc, hkk] at hW0
  rw [hcc, hkk, hnl, hn3]
  have HM := Lib.hid hMay; have Hb0 := Lib.hid hb0; have HW0 := Lib.hid hW0
  clear hMay hb0 hW0 hP hL hZ h h1 hv hz h0 hm' hg0 hcc hkk hnl hn3
  go_enter Tryz.func4, Tryz.ntmps4
  go_wp2_with (first
   | (go_at_call 25; refine HM.out.mono ?_; rintro e w1 ⟨rfl, hb⟩; rw [← HW0.out] at hb; have hq := bt Hb0.out hb; clear hb)
   | (go_at_call 27; refine (wakes19 _).mono ?_; rintro e w2 ⟨rfl, hb⟩))
  go_ret
  exact ⟨rfl, bt hq hb⟩
end

section
open Go Go.RowKit Go.ChangeShapes Go.WideShapes Go.ChangeAt

set_option maxRecDepth 100000 in
theorem meekNames_lifted (os : Os) (started : os.Started) (H : Type) (enc : TypeId × Value → H) :
  ReturnsInHanded {} Tryz.checked os 4 .any (Rows.meekNamesSpec.pre6 enc Tryz.prog Tryz.f4 Rows.meekNamesRow.domain false) (Rows.meekNamesSpec.post enc Tryz.prog Tryz.f4 false true false false) := by
 refine returnsInHanded_of_change_sized (C := Tryz.checked) Tryz.own started (by kernel_rfl) Tryz.func4
  (ChangeSpec.witness6 (enc := enc) (C := Tryz.checked) false ⟨#[], #[.agg #[.int .i64 0, .int .u8 0, .slice none 0 0], .int .i64 0, .slice none 0 0, .slice none 0 0], []⟩ 8 (by kernel_rfl) (by kernel_rfl) (by kernel_rfl) (by kernel_rfl)) ?_
 intro W base args ds gs before hval0 hW hcnd hsz0 _
 have hval : ∀ (j : Nat) t v, Tryz.f4.params[j]? = some t → args[j]? = some v → Value.okWide Tryz.prog W .any base t v := hval0
 have hsz : (DataW.weightsEach Tryz.prog (Tryz.f4.params.toList ++ Rows.meekNamesSpec.plain.varTypes Tryz.prog) (ds ++ gs)).all (· ≤ reachBytes) = true := hsz0
 have hW' := hW
 obtain ⟨p, q, hA0, hV, rfl, hfz, hnd⟩ := hW
 have hA : DataW.TrodAll enc Tryz.prog W 0 (fun _ => true) true Tryz.f4.params.toList args.toList ds p := hA0
 rw [Tryz.params4] at hA hval hsz
 obtain ⟨v0, vs0, d0, ds0, p0, q0, hargs, rfl, rfl, h0, r0⟩ := trodAll_cons hA
 obtain ⟨v1, vs1, d1, ds1, p1, q1, rfl, rfl, rfl, h1, r1⟩ := trodAll_cons r0
 obtain ⟨v2, vs2, d2, ds2, p2, q2, rfl, rfl, rfl, h2, r2⟩ := trodAll_cons r1
 obtain ⟨v3, vs3, d3, ds3, p3, q3, rfl, rfl, rfl, h3, r3⟩ := trodAll_cons r2
 obtain ⟨rfl, rfl, rfl⟩ := trodAll_nil r3
 obtain rfl : args = #[v0, v1, v2, v3] := by cases args; simp_all
 obtain ⟨rfl, rfl⟩ := trodVars_none hV
 have k0 := h0
 have k1 := h1
 have k2 := h2
 have k3 := h3
 have lt0 : ∀ x ∈ p0, x.block < W.heap.size := by obtain ⟨m, hm⟩ := k0; exact DataW.trod_lt m _ _ _ hm
 have lt1 : ∀ x ∈ p1, x.block < W.heap.size := by obtain ⟨m, hm⟩ := k1; exact DataW.trod_lt m _ _ _ hm
 have lt2 : ∀ x ∈ p2, x.block < W.heap.size := by obtain ⟨m, hm⟩ := k2; exact DataW.trod_lt m _ _ _ hm
 have lt3 : ∀ x ∈ p3, x.block < W.heap.size := by obtain ⟨m, hm⟩ := k3; exact DataW.trod_lt m _ _ _ hm
 obtain ⟨x0, y0⟩ := arg_prof (hval 0 _ v0 rfl rfl) h0 (weights_at hsz 0 rfl rfl)
 obtain ⟨x1, rfl, e1, e1', wf1⟩ := open_int Tryz.underlying3 (hval 1 _ v1 rfl rfl) h1
 obtain ⟨x2, y2⟩ := arg_ints (hval 2 _ v2 rfl rfl) h2 (weights_at hsz 2 rfl rfl)
 obtain ⟨x3, y3⟩ := arg_ints (hval 3 _ v3 rfl rfl) h3 (weights_at hsz 3 rfl rfl)
 clear hA0 hval0
 refine (law_mnames v0 v2 v3 x0 x1 x2 x3 W y0 wf1 y2 y3).mono fun e W' ⟨he, bel⟩ => ?_
 subst he
 exact ⟨_, rfl, _, _, _, [], _, [], hW', trodAll_mk1 (shut_bool Tryz.underlying4 _), (trodAll_cons_mk (Below.trod Tryz.laidOut (by kernel_rfl) (of_decide_eq_true (by kernel_rfl)) k0 bel lt0) (trodAll_cons_mk (Below.trod Tryz.laidOut (by kernel_rfl) (of_decide_eq_true (by kernel_rfl)) k1 bel lt1) (trodAll_cons_mk (Below.trod Tryz.laidOut (by kernel_rfl) (of_decide_eq_true (by kernel_rfl)) k2 bel lt2) (trodAll_cons_mk (Below.trod Tryz.laidOut (by kernel_rfl) (of_decide_eq_true (by kernel_rfl)) k3 bel lt3) trodAll_mk0)))), rfl, bel.frame _, fun h => by cases h⟩

theorem meekNames_named : Tryz.prog.funcNamed Rows.meekNamesRow.func = some 4 := by kernel_rfl
theorem meekNames_facts : joinedFacts Tryz.prog 4 Tryz.f4 Rows.meekNamesSpec Rows.meekNamesRow = true := by kernel_rfl
theorem meekNames_inst : Tryz.f4.isInstance Tryz.prog Rows.meekNamesRow.origin Rows.meekNamesRow.targs := of_decide_eq_true (by kernel_rfl)
theorem meekNames_wrap : Tryz.f4.isWrapper Tryz.prog Rows.meekNamesRow.wrapper Rows.meekNamesRow.mainSum := by
 unfold Func.isWrapper
 rw [if_neg (of_decide_eq_false (by kernel_rfl))]
 exact ⟨rfl, rfl⟩
theorem meekNames_holds : Rows.MeekNamesSaid :=
 OpenClaim.holds_of_wide 4 Tryz.f4 rfl rfl rfl rfl rfl rfl rfl ⟨rfl, rfl, rfl, rfl, rfl⟩ rfl rfl rfl rfl rfl meekNames_named Tryz.func4 meekNames_facts
  meekNames_inst meekNames_wrap
  (fun os started H enc _ => meekNames_lifted os started H enc)
#print axioms meekNames_holds
end
end Go.Proofs.YthcbkhfmdginiaaGreat
