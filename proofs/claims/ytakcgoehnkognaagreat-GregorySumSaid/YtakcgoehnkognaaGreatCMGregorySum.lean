/- The law GregorySum returns true whatever the input, and every argument reads behind the call as it read before. No condition. -/
import Derived.Test.YtakcgoehnkognaaGreatCGDec
import Derived.Test.YtakcgoehnkognaaGreatCGRead
import Derived.Test.YtakcgoehnkognaaGreatCGRen
import Derived.Test.YtakcgoehnkognaaGreatRows
import Derived.Test.YtakcgoehnkognaaGreatCGSam
import Derived.WalkKit
import Derived.ProofKit
import Derived.OpenShut
import Derived.ShutString
import Derived.ChangeOld
import Derived.Below

namespace Go.Proofs.YtakcgoehnkognaaGreat
open Go Go.RowKit Go.Shelf Limb

theorem ranked_take {C : Nat} {rows : List Row} {k : Nat} (h : k < rows.length) : rankedB C (rows.take (k + 1)) = (rankedB C (rows.take k) && (decide (rows[k].marks.length = C) || decide (rows[k].marks.length = 0))) := by
  rw [List.take_succ_eq_append_getElem h, rankedB, List.all_append, rankedB]; simp
theorem bill_zero : bill 0 = whole 0 := by
  have := bill_whole 0
  simpa using this
theorem flat_takeR {f : Rnd → List Int} {rds : List Rnd} {k : Nat} (h : k < rds.length) : (rds.take (k + 1)).flatMap f = (rds.take k).flatMap f ++ f rds[k] := by
  rw [List.take_succ_eq_append_getElem h, List.flatMap_append]; simp
theorem flat_leR {f : Rnd → List Int} {rds : List Rnd} {k : Nat} : ((rds.take k).flatMap f).length ≤ (rds.flatMap f).length := by
  conv => rhs; rw [← List.take_append_drop k rds]
  rw [List.flatMap_append, List.length_append]; omega
theorem gon_len {l : List Rnd} : (l.flatMap gon).length = (l.flatMap Rnd.elected).length + (l.flatMap Rnd.out).length := by
  induction l with
  | nil => rfl
  | cons a l ih => simp only [List.flatMap_cons, List.length_append, ih, gon]; omega
theorem VRt.low {w : World} {v : Value} {x : Rt} (h : VRt Any w v x) : VRt (fun b => b < w.heap.size) w v x := by
  obtain ⟨u1, u2, hh, h1, h2⟩ := h
  exact ⟨u1, u2, hh, h1.cut.mono fun _ h => h.2, h2.cut.mono fun _ h => h.2⟩
def lastG (gl : Nat → Int) (k : Nat) : Int := if k = 0 then 0 else gl (k - 1)
theorem sum_take {l : List Int} {c : Nat} (h : c < l.length) : (l.take (c + 1)).sum = (l.take c).sum + gI l c := by
  rw [List.take_succ_eq_append_getElem h, List.sum_append, gI_at h]; simp
theorem take_bound {l : List Int} {B : Int} (h : ∀ x : Nat, 0 ≤ gI l x ∧ gI l x ≤ B) : ∀ j : Nat, j ≤ l.length → 0 ≤ (l.take j).sum ∧ (l.take j).sum ≤ j * B
  | 0, _ => by simp
  | j + 1, hj => by
    obtain ⟨h1, h2⟩ := take_bound h j (by omega)
    obtain ⟨h3, h4⟩ := h j
    rw [sum_take (by omega), Int.natCast_add, Int.add_mul]
    omega
theorem own_not {base g : Nat} {W : World} {va : Value} {xs : List Int} {cs : Array Value} (ho : Own base 3 1 (dInt .i64) W va xs) (hg : W.heap[g]? = some (.cells cs 53 (0, 0))) : va.ownBlock ≠ some g := by
  intro e
  obtain ⟨cur, h1⟩ := own_type ho e
  rw [h1] at hg
  simp only [Option.some.injEq, Obj.cells.injEq] at hg
  exact absurd hg.2.1 (by decide)
theorem cmpN_ge {a b : Nat} (h : b ≤ a) : ¬ cmpN a b < 0 := by unfold cmpN; split <;> (try split) <;> omega
theorem cmpN_lt {a b : Nat} (h : a < b) : cmpN a b < 0 := by unfold cmpN; rw [if_pos h]; omega
set_option maxHeartbeats 16000000 in
set_option maxRecDepth 100000 in
set_option linter.unusedSimpArgs false in
theorem law_gsum (u v : Value) (p : Prof) (seats : Int) (lot : List Int) (w : World) (h : VProf Any w u p) (_ : (Lit.int .i64 seats).wf = true) (hv : RInts Any w v lot) :
    Calls Tryz.prog 6 #[u, .int .i64 seats, v] w fun e w' => e = .returned (.bool true) ∧ Below w.heap.size w w' := by
  have h1 := h
  obtain ⟨a, m, c, rfl⟩ := h.agg
  obtain ⟨a2, c2, rfl, -, -⟩ := RSl.shape hv
  obtain ⟨W0, hW0⟩ : ∃ W0, W0 = w.alloc (.cells #[.int .i64 p.cands, .int .u8 p.kind, .slice a m c] 24) := ⟨_, rfl⟩
  have hb0 : Below w.heap.size w W0 := by rw [hW0]; exact below_new w _
  have hg0 : W0.heap[w.heap.size]? = some (.cells #[.int .i64 p.cands, .int .u8 p.kind, .slice a m c] 24 (0, 0)) := by rw [hW0]; exact box_new w _
  have hP := h1.same (.of_below hb0)
  have hL := hv.same (.of_below hb0)
  have hMay := l18May Any Any _ _ p seats lot W0 hP hL
  by_cases h0 : rankI p seats lot = 0
  · have hm : mayG p seats lot = true := by simp [mayG, h0]
    rw [hm] at hMay
    obtain ⟨C, sn, hF⟩ := rankF h0
    obtain rfl := hF.seats
    have hll : lot.length = C := hF.lot.len
    have hc10 := hF.c10
    have hs1 := hF.s
    have hC10 : C ≤ 10 := hc10.2
    have hsn10 : sn ≤ 10 := by omega
    obtain ⟨k1, k2, k3, k4⟩ := greF_end hF
    have hO := greV_eq hF h0
    obtain ⟨S, hS⟩ : ∃ S, greS p sn lot C = S := ⟨_, rfl⟩
    rw [hS] at k1 k2 k3 k4 hO
    obtain ⟨nr, hnr⟩ : ∃ n, S.rounds.length = n := ⟨_, rfl⟩
    obtain ⟨nt, hnt⟩ : ∃ n, S.ties.length = n := ⟨_, rfl⟩
    rw [hnr] at k2
    rw [hnt] at k3
    have hCt := fun (W : World) (hW : Below W0.heap.size W0 W) => greCountL Any Any _ _ p sn lot W _ (hP.same (.of_below hW)) (hL.same (.of_below hW)) h0 hO k1 hnr hnt
    have hLo := fun (W : World) (hW : Below W0.heap.size W0 W) => hL.same (.of_below hW)
    obtain ⟨kk, hkk⟩ : ∃ x, p.kind = x := ⟨_, rfl⟩
    obtain ⟨hq1, hq2⟩ := quotaV_eq hF
    have hQu := fun (W : World) (hW : Below W0.heap.size W0 W) => greQuota Any _ p sn W (hP.same (.of_below hW))
    have hMk := fun (W : World) (hW : Below W0.heap.size W0 W) => profMarked Any _ p W (hP.same (.of_below hW))
    rw [hq1, hq2] at hQu
    rw [markV, if_pos hF.chk, hF.chk] at hMk
    have hdb := droop_bound hF.votes (s := (sn : Int)) (by omega)
    have hvb := hF.votes
    have hgq : greQ p sn = droop (markS p.rows) sn * 1000000000 := rfl
    have hRo := fun (W : World) (hW : Below W0.heap.size W0 W) => (hP.same (.of_below hW)).rws
    have hrg := fun i hi => rndG hF (i := i) hi
    have hgr := fun i hi => lost_grows hF (i := i) hi
    have hfu := fun hf i hi => lost_full hF hf (i := i) hi
    have hr64 := hF.rows
    have hgone : (S.rounds.flatMap gon).length ≤ 10 := by have := nodup_len k4.nodup k4.rng; omega
    simp only [hS] at hrg hgr hfu
    obtain ⟨R0, hR0⟩ : ∃ r, p.rows = r := ⟨_, rfl⟩
    obtain ⟨V, hV⟩ : ∃ v, markS p.rows = v := ⟨_, rfl⟩
    obtain ⟨q, hq⟩ : ∃ q, droop V sn = q := ⟨_, rfl⟩
    obtain ⟨gh, hgh⟩ : ∃ g, gHad p sn lot C = g := ⟨_, rfl⟩
    obtain ⟨gl, hgl⟩ : ∃ g, gLost p sn lot C = g := ⟨_, rfl⟩
    have hrg2 : ∀ i (hi : i < S.rounds.length), S.rounds[i].had = (gh i).map bill ∧ S.rounds[i].lost = bill (gl i) ∧ (gh i).length = C ∧ (∀ x : Nat, 0 ≤ gI (gh i) x ∧ gI (gh i) x ≤ 1000000000000000) ∧ (0 ≤ gl i ∧ gl i ≤ 1000000000000000) ∧ (gh i).sum + gl i = V * 1000000000 ∧
        (∀ x : Nat, x < C → (x : Int) ∈ (S.rounds.take i).flatMap Rnd.elected → gI (gh i) x = q * 1000000000) ∧ (∀ x : Nat, x < C → (x : Int) ∈ (S.rounds.take i).flatMap Rnd.out → gI (gh i) x = 0) := fun i hi => by
      obtain ⟨a1, a2, a3, a4, a5, a6, a7, a8⟩ := hrg i hi
      rw [hgq, hV, hq] at a7
      rw [hV] at a6
      simp only [hgh, hgl] at a1 a2 a3 a4 a5 a6 a7 a8
      exact ⟨a1, a2, a3, a4, a5, a6, a7, a8⟩
    simp only [hV, hq, hgl] at hQu hMk hdb hvb hgr hfu
    simp only [hR0] at hRo hfu hr64
    obtain ⟨qn, hqn⟩ : ∃ n : Nat, q = (n : Int) := ⟨q.toNat, by omega⟩
    obtain ⟨Vn, hVn⟩ : ∃ n : Nat, V = (n : Int) := ⟨V.toNat, by omega⟩
    have hWq := fun W => ratWhole qn W (by omega)
    have hWV := fun W => ratWhole Vn W (by omega)
    have hW0' := fun W => ratWhole 0 W (by omega)
    have hOf := fun W => ratOfF 1 100 W (by omega) (by omega) (by omega)
    unfold GivesW at hWq hWV hW0'
    simp only [show (1 : Nat) / Nat.gcd 1 100 = bn 10000000 by decide +kernel, show (100 : Nat) / Nat.gcd 1 100 = bd 10000000 by decide +kernel] at hOf
    obtain ⟨p1, hp1⟩ : ∃ L, (lim (bn 10000000)).length = L := ⟨_, rfl⟩
    obtain ⟨p2, hp2⟩ : ∃ L, (lim (bd 10000000)).length = L := ⟨_, rfl⟩
    have hOf2 : ∀ W : World, Calls Tryz.prog 25 #[.int .i64 1, .int .i64 100] W fun e w' => ∃ a c a' c', e = .returned (.tuple #[.agg #[.bool false, .slice a p1 c, .slice a' p2 c'], .int .i64 0]) ∧ VRt Any w' (.agg #[.bool false, .slice a p1 c, .slice a' p2 c']) (bill 10000000) ∧ Below W.heap.size W w' := fun W => (hOf W).mono fun e w' hh => by
      obtain ⟨a, c, a', c', rfl, k1, k2, k3⟩ := hh
      have := (vrt_pq k1 k2).any
      rw [hp1, hp2] at this ⊢
      exact ⟨_, _, _, _, rfl, this, k3⟩
    have hWz : ∀ W : World, Calls Tryz.prog 26 #[.int .i64 0] W fun e w' => ∃ a c a' c', e = .returned (.agg #[.bool false, .slice a 0 c, .slice a' 1 c']) ∧ VRt Any w' (.agg #[.bool false, .slice a 0 c, .slice a' 1 c']) (bill 0) ∧ Below W.heap.size W w' := fun W => (hW0' W).mono fun e w' hh => by
      obtain ⟨a, c, a', c', rfl, k1, k2, k3⟩ := hh
      rw [lim_zero] at k1 ⊢
      exact ⟨_, _, _, _, rfl, by rw [bill_zero, show (0 : Int) = ((0 : Nat) : Int) by rfl, whole_nat, lim_zero]; exact ⟨_, _, rfl, k1.mono fun _ _ => trivial, k2.mono fun _ _ => trivial⟩, k3⟩
    obtain ⟨lq, hlq⟩ : ∃ L, (lim qn).length = L := ⟨_, rfl⟩
    obtain ⟨lV, hlV⟩ : ∃ L, (lim Vn).length = L := ⟨_, rfl⟩
    have hWq2 : ∀ W : World, Calls Tryz.prog 26 #[.int .i64 q] W fun e w' => ∃ a c a' c', e = .returned (.agg #[.bool false, .slice a lq c, .slice a' 1 c']) ∧ VRt Any w' (.agg #[.bool false, .slice a lq c, .slice a' 1 c']) (bill (q * 1000000000)) ∧ Below W.heap.size W w' := fun W => by
      rw [hqn]
      refine (hWq W).mono fun e w' hh => ?_
      obtain ⟨a, c, a', c', rfl, k1, k2, k3⟩ := hh
      have : VRt Any w' (.agg #[.bool false, .slice a (lim qn).length c, .slice a' 1 c']) (bill ((qn : Int) * 1000000000)) := by rw [bill_whole, whole_nat]; exact ⟨_, _, rfl, k1.mono fun _ _ => trivial, k2.mono fun _ _ => trivial⟩
      rw [hlq] at this ⊢
      exact ⟨_, _, _, _, rfl, this, k3⟩
    have hWV2 : ∀ W : World, Calls Tryz.prog 26 #[.int .i64 V] W fun e w' => ∃ a c a' c', e = .returned (.agg #[.bool false, .slice a lV c, .slice a' 1 c']) ∧ VRt Any w' (.agg #[.bool false, .slice a lV c, .slice a' 1 c']) (bill (V * 1000000000)) ∧ Below W.heap.size W w' := fun W => by
      rw [hVn]
      refine (hWV W).mono fun e w' hh => ?_
      obtain ⟨a, c, a', c', rfl, k1, k2, k3⟩ := hh
      have : VRt Any w' (.agg #[.bool false, .slice a (lim Vn).length c, .slice a' 1 c']) (bill ((Vn : Int) * 1000000000)) := by rw [bill_whole, whole_nat]; exact ⟨_, _, rfl, k1.mono fun _ _ => trivial, k2.mono fun _ _ => trivial⟩
      rw [hlV] at this ⊢
      exact ⟨_, _, _, _, rfl, this, k3⟩
    have HQu := Lib.hid hQu; have HMk := Lib.hid hMk; have HRo := Lib.hid hRo; have HRg := Lib.hid hrg2; have HGr := Lib.hid hgr; have HFu := Lib.hid hfu; have HOf := Lib.hid hOf2; have HWz := Lib.hid hWz; have HWq := Lib.hid hWq2; have HWV := Lib.hid hWV2; have Hgone := Lib.hid hgone; have Hr64 := Lib.hid hr64; have HVb := Lib.hid hvb; have HQb := Lib.hid hdb
    clear hr64 hQu hMk hRo hrg hrg2 hgr hfu hOf hOf2 hWz hWq hWq2 hWV hWV2 hW0' hgone hvb hdb hgq hR0 hV hq hgh hgl hqn hVn hp1 hp2 hlq hlV hq1 hq2
    simp only [hF.cands, hkk, hll] at hMay hCt hLo hW0 hg0 ⊢
    have HQu2 := HQu.out
    have HMk2 := HMk.out
    simp only [hF.cands, hkk] at HQu2 HMk2
    have HQ := Lib.hid HQu2; have HM2 := Lib.hid HMk2
    rw [hW0] at hMay
    clear HQu HQu2 HMk HMk2
    have HM := Lib.hid hMay; have HCt := Lib.hid hCt; have HLo := Lib.hid hLo; have HW0 := Lib.hid hW0; have G0 := Lib.hid hg0; have Hb0 := Lib.hid hb0; have HF := Lib.hid hF; have Hll := Lib.hid hll; have HJ := Lib.hid k4; have Hel := Lib.hid k1; have Hnr := Lib.hid hnr; have Hnt := Lib.hid hnt; have HS := Lib.hid hS
    clear hMay hCt hLo hW0 hg0 hb0 hF hll k4 k1 hnr hnt hS hP hL h h1 hv hm h0 hO hkk hc10
    have st0 := Lib.hid True.intro
    go_enter Tryz.func6, Tryz.ntmps6
    go_upto_region 8 with (first
      | (have := st3; go_at_call 15; clear st3; refine (HQ.out _ q3.out).mono ?_; rintro e w4 ⟨rfl, hb⟩; have C4 := Lib.hid (bt C3.out hb); have q4 := Lib.hid (bt q3.out hb); clear hb pa pb pc pl this; have st4 := Lib.hid True.intro)
      | (have := st2; go_at_call 24; clear st2; refine (HM2.out _ (bt q2.out (below_new w2 (.cells #[.slice b1 sn d1, .slice b2 nr d2, .slice b3 nt d3] 32)))).mono ?_; rintro e w3 ⟨rfl, hb⟩; have C3 := Lib.hid hb; have q3 := Lib.hid (bt q2.out (bt (below_new w2 (.cells #[.slice b1 sn d1, .slice b2 nr d2, .slice b3 nt d3] 32)) hb)); clear hb pa pb pc pl; obtain ⟨pa, pb, pc, pl⟩ := box3 G0.out q3.out; clear this; have st3 := Lib.hid True.intro)
      | (have := st0; go_at_call 22; clear st0; refine HM.out.mono ?_; rintro e w1 ⟨rfl, hb⟩; rw [← HW0.out] at hb; have q1 := Lib.hid hb; obtain ⟨pa, pb, pc, pl⟩ := box3 G0.out hb; clear hb; have st1 := Lib.hid True.intro; clear this)
      | (have := st1; go_at_call 13; clear st1; refine (HCt.out _ q1.out).mono ?_; rintro e w2 ⟨b1, d1, b2, d2, b3, d3, rfl, kv, hb⟩; have q2 := Lib.hid (bt q1.out hb); have HV2 := Lib.hid kv; clear hb kv pa pb pc pl; obtain ⟨pa, pb, pc, pl⟩ := box3 G0.out q2.out; have st2 := Lib.hid True.intro; clear this))
    have GX := Lib.hid (keep_box C4.out (box_new w2 (.cells #[.slice b1 sn d1, .slice b2 nr d2, .slice b3 nt d3] 32)))
    have hV := HV2.out.same (w' := w4) (.of_below (bt (below_new w2 (.cells #[.slice b1 sn d1, .slice b2 nr d2, .slice b3 nt d3] 32)) C4.out))
    obtain ⟨-, hR, -⟩ := hV.split
    have HR := Lib.hid hR
    have HRm := HRo.out w4 q4.out
    have Hm := Lib.hid (RSl.len HRm).symm
    have hm64 : m ≤ 64 := by rw [RSl.len HRm]; exact Hr64.out
    clear hV hR HRm
    obtain ⟨pa, pb, pc, pl⟩ := box3 G0.out q4.out
    go_wp2
    clear pa pb pc pl
    go_loopw [13, 14] (fun bv i wr => ∃ (k : Nat) (b : Bool), k ≤ m ∧ i = .int .i64 k ∧ bv = .bool b ∧ Hid (b = rankedB C (R0.take k)) ∧ Hid (Below w4.heap.size w4 wr)) (fun _ i _ => m - (intOf i).toNat)
    case atStart => exact ⟨0, true, Nat.zero_le _, rfl, rfl, Lib.hid rfl, Lib.hid (Below.refl _ _)⟩
    case round =>
      obtain ⟨k, b, hk, rfl, rfl, hbk, hb⟩ := hrel
      obtain ⟨pa, pb, pc, pl⟩ := box3 G0.out (bt q4.out hb.out)
      by_cases hlt : k < m
      · have hlr : k < R0.length := by rw [Hm.out]; exact hlt
        obtain ⟨rb, roff, rc', rd, rfl, -, rbl, rcl, rdl, hx⟩ := RSl.at2 (HRo.out wr (bt q4.out hb.out)) k hlr
        obtain ⟨mb, mc, rfl, rfl, hml7, -, -⟩ := hx.open
        have hst := ranked_take (C := C) hlr
        rw [← hbk.out] at hst
        obtain ⟨ml, hml⟩ : ∃ n, R0[k].marks.length = n := ⟨_, rfl⟩
        rw [hml] at rcl hst hml7
        have hS12 : ∀ W : World, Below wr.heap.size wr W → W.cell? ⟨w.heap.size, 0, none⟩ = some (.int .i64 (C : Int)) ∧ W.cell? ⟨w.heap.size, 2, none⟩ = some (.slice (some ⟨rb, roff, none⟩) m c) ∧ W.cell? ⟨rb, roff + k * 2, none⟩ = some (.slice mb ml mc) := fun W hW => by
          obtain ⟨z0, z1, z2, -⟩ := box3 G0.out (bt q4.out (bt hb.out hW))
          exact ⟨z0, z2, (Same.of_below (S := Any) hW).cell trivial rcl⟩
        have Hst := Lib.hid hst; have HS12 := Lib.hid hS12
        clear hst hx hml rdl hlr hS12
        cases b with
        | false =>
          go_upto_region 12 with fail
          refine wp_region_L (S := (fun W : World => W.cell? ⟨w.heap.size, 0, none⟩ = some (.int .i64 (C : Int)) ∧ W.cell? ⟨w.heap.size, 2, none⟩ = some (.slice (some ⟨rb, roff, none⟩) m c) ∧ W.cell? ⟨rb, roff + k * 2, none⟩ = some (.slice mb ml mc))) (L := []) (by kernel_rfl) (HS12.out _ (Below.drew (Below.refl _ wr))) (fun hHeld => ?_)
          refine tk 0 ?_ rfl hHeld ?_ ?_; rotate_left
          · intro w hSw; (try dsimp only at hSw); go_simp; try (with_reducible rfl)
          (try simp only [la, lb, lc, ld, lf, lg, lh])
          refine tk 1 ?_ rfl hHeld ?_ ?_; rotate_left
          · intro w hSw; (try dsimp only at hSw); go_simp; try (with_reducible rfl)
          (try simp only [la, lb, lc, ld, lf, lg, lh])
          refine tu 2 rfl hHeld ?_
          (try simp only [la, lb, lc, ld, lf, lg, lh])
          refine tu 3 rfl hHeld ?_
          (try simp only [la, lb, lc, ld, lf, lg, lh])
          refine tu 4 rfl hHeld ?_
          (try simp only [la, lb, lc, ld, lf, lg, lh])
          refine tu 5 rfl hHeld ?_
          (try simp only [la, lb, lc, ld, lf, lg, lh])
          refine tu 6 rfl hHeld ?_
          (try simp only [la, lb, lc, ld, lf, lg, lh])
          refine tu 7 rfl hHeld ?_
          (try simp only [la, lb, lc, ld, lf, lg, lh])
          refine tu 8 rfl hHeld ?_
          (try simp only [la, lb, lc, ld, lf, lg, lh])
          refine tu 9 rfl hHeld ?_
          (try simp only [la, lb, lc, ld, lf, lg, lh])
          refine tu 10 rfl hHeld ?_
          (try simp only [la, lb, lc, ld, lf, lg, lh])
          refine tu 11 rfl hHeld ?_
          (try simp only [la, lb, lc, ld, lf, lg, lh])
          refine tu 12 rfl hHeld ?_
          (try simp only [la, lb, lc, ld, lf, lg, lh])
          refine tu 13 rfl hHeld ?_
          (try simp only [la, lb, lc, ld, lf, lg, lh])
          refine tu 14 rfl hHeld ?_
          (try simp only [la, lb, lc, ld, lf, lg, lh])
          refine tu 15 rfl hHeld ?_
          (try simp only [la, lb, lc, ld, lf, lg, lh])
          refine tu 16 rfl hHeld ?_
          (try simp only [la, lb, lc, ld, lf, lg, lh])
          refine tu 17 rfl hHeld ?_
          (try simp only [la, lb, lc, ld, lf, lg, lh])
          refine tu 18 rfl hHeld ?_
          (try simp only [la, lb, lc, ld, lf, lg, lh])
          refine tu 19 rfl hHeld ?_
          (try simp only [la, lb, lc, ld, lf, lg, lh])
          refine tu 20 rfl hHeld ?_
          (try simp only [la, lb, lc, ld, lf, lg, lh])
          refine tu 21 rfl hHeld ?_
          (try simp only [la, lb, lc, ld, lf, lg, lh])
          refine tk 22 ?_ rfl hHeld ?_ ?_; rotate_left
          · intro w hSw; (try dsimp only at hSw); go_simp; try (with_reducible rfl)
          (try simp only [la, lb, lc, ld, lf, lg, lh])
          refine tk 23 ?_ rfl hHeld ?_ ?_; rotate_left
          · intro w hSw; (try dsimp only at hSw); go_simp; try (with_reducible rfl)
          (try simp only [la, lb, lc, ld, lf, lg, lh])
          refine wpAnyL_done (by kernel_rfl) ?_ _
          go_wp2_with fail
          have hst := Hst.out
          (try rw [d2] at hst)
          simp only [Bool.and_true, Bool.and_false, Bool.false_and, Bool.true_and] at hst
          have hbe := bt hb.out (Below.drew (Below.refl _ wr))
          clear HS12 rbl rcl pa pb pc pl hml7
          refine ⟨⟨k + 1, _, by omega, ?_, rfl, Lib.hid hst.symm, Lib.hid hbe⟩, ?_⟩
          all_goals clear hst hbe
          · go_num
          · simp [intOf]; omega
        | true =>
          have hway : (((ml : Int) == C) = true ∧ (decide (ml = C) || decide (ml = 0)) = true) ∨ (((ml : Int) == C) = false ∧ ((ml : Int) == 0) = true ∧ (decide (ml = C) || decide (ml = 0)) = true) ∨ (((ml : Int) == C) = false ∧ ((ml : Int) == 0) = false ∧ (decide (ml = C) || decide (ml = 0)) = false) := by
            by_cases hmC : ml = C
            · exact .inl ⟨by simp; omega, by simp [hmC]⟩
            · by_cases hm0 : ml = 0
              · exact .inr (.inl ⟨by simp; omega, by simp; omega, by simp [hm0]⟩)
              · exact .inr (.inr ⟨by simp; omega, by simp; omega, by simp [hmC, hm0]⟩)
          go_upto_region 12 with fail
          rcases hway with ⟨d1, d2⟩ | ⟨d1, d3, d2⟩ | ⟨d1, d3, d2⟩
          ·
            refine wp_region_L (S := (fun W : World => W.cell? ⟨w.heap.size, 0, none⟩ = some (.int .i64 (C : Int)) ∧ W.cell? ⟨w.heap.size, 2, none⟩ = some (.slice (some ⟨rb, roff, none⟩) m c) ∧ W.cell? ⟨rb, roff + k * 2, none⟩ = some (.slice mb ml mc))) (L := []) (by kernel_rfl) (HS12.out _ (Below.drew (Below.refl _ wr))) (fun hHeld => ?_)
            refine tk 0 ?_ rfl hHeld ?_ ?_; rotate_left
            · intro w hSw; (try dsimp only at hSw); go_simp; try (with_reducible rfl)
            (try simp only [la, lb, lc, ld, lf, lg, lh])
            refine tk 1 ?_ rfl hHeld ?_ ?_; rotate_left
            · intro w hSw; (try dsimp only at hSw); go_simp; try (with_reducible rfl)
            (try simp only [la, lb, lc, ld, lf, lg, lh])
            refine tk 2 ?_ rfl hHeld ?_ ?_; rotate_left
            · intro w hSw; (try dsimp only at hSw); go_simp; try (with_reducible rfl)
            (try simp only [la, lb, lc, ld, lf, lg, lh])
            refine tk 3 ?_ rfl hHeld ?_ ?_; rotate_left
            · intro w hSw; (try dsimp only at hSw); go_simp; try (with_reducible rfl)
            (try simp only [la, lb, lc, ld, lf, lg, lh])
            refine tk 4 ?_ rfl hHeld ?_ ?_; rotate_left
            · intro w hSw; (try dsimp only at hSw); go_simp; try (with_reducible rfl)
            (try simp only [la, lb, lc, ld, lf, lg, lh])
            refine tk 5 ?_ rfl hHeld ?_ ?_; rotate_left
            · intro w hSw; (try dsimp only at hSw); go_simp; try (with_reducible rfl)
            (try simp only [la, lb, lc, ld, lf, lg, lh])
            refine tk 6 ?_ rfl hHeld ?_ ?_; rotate_left
            · intro w hSw; (try dsimp only at hSw); go_simp; try (with_reducible rfl)
            (try simp only [la, lb, lc, ld, lf, lg, lh])
            refine tk 7 ?_ rfl hHeld ?_ ?_; rotate_left
            · intro w hSw; (try dsimp only at hSw); go_simp; try (with_reducible rfl)
            (try simp only [la, lb, lc, ld, lf, lg, lh])
            refine tk 8 ?_ rfl hHeld ?_ ?_; rotate_left
            · intro w hSw; (try dsimp only at hSw); go_simp; try (with_reducible rfl)
            (try simp only [la, lb, lc, ld, lf, lg, lh])
            refine tk 9 ?_ rfl hHeld ?_ ?_; rotate_left
            · intro w hSw; (try dsimp only at hSw); go_simp; try (with_reducible rfl)
            (try simp only [la, lb, lc, ld, lf, lg, lh])
            refine tk 10 ?_ rfl hHeld ?_ ?_; rotate_left
            · intro w hSw; (try dsimp only at hSw); go_simp; try (with_reducible rfl)
            (try simp only [la, lb, lc, ld, lf, lg, lh])
            refine tk 11 ?_ rfl hHeld ?_ ?_; rotate_left
            · intro w hSw; (try dsimp only at hSw); go_simp; try (with_reducible rfl)
            (try simp only [la, lb, lc, ld, lf, lg, lh])
            refine tk 12 ?_ rfl hHeld ?_ ?_; rotate_left
            · intro w hSw; (try dsimp only at hSw); go_simp; try (with_reducible rfl)
            (try simp only [la, lb, lc, ld, lf, lg, lh])
            refine tu 13 rfl hHeld ?_
            (try simp only [la, lb, lc, ld, lf, lg, lh])
            refine tu 14 rfl hHeld ?_
            (try simp only [la, lb, lc, ld, lf, lg, lh])
            refine tu 15 rfl hHeld ?_
            (try simp only [la, lb, lc, ld, lf, lg, lh])
            refine tu 16 rfl hHeld ?_
            (try simp only [la, lb, lc, ld, lf, lg, lh])
            refine tu 17 rfl hHeld ?_
            (try simp only [la, lb, lc, ld, lf, lg, lh])
            refine tu 18 rfl hHeld ?_
            (try simp only [la, lb, lc, ld, lf, lg, lh])
            refine tu 19 rfl hHeld ?_
            (try simp only [la, lb, lc, ld, lf, lg, lh])
            refine tu 20 rfl hHeld ?_
            (try simp only [la, lb, lc, ld, lf, lg, lh])
            refine tk 21 ?_ rfl hHeld ?_ ?_; rotate_left
            · intro w hSw; (try dsimp only at hSw); go_simp; try (with_reducible rfl)
            (try simp only [la, lb, lc, ld, lf, lg, lh])
            refine tk 22 ?_ rfl hHeld ?_ ?_; rotate_left
            · intro w hSw; (try dsimp only at hSw); go_simp; try (with_reducible rfl)
            (try simp only [la, lb, lc, ld, lf, lg, lh])
            refine tk 23 ?_ rfl hHeld ?_ ?_; rotate_left
            · intro w hSw; (try dsimp only at hSw); go_simp; try (with_reducible rfl)
            (try simp only [la, lb, lc, ld, lf, lg, lh])
            refine wpAnyL_done (by kernel_rfl) ?_ _
            go_wp2_with fail
            have hst := Hst.out
            (try rw [d2] at hst)
            simp only [Bool.and_true, Bool.and_false, Bool.false_and, Bool.true_and] at hst
            have hbe := bt hb.out (Below.drew (Below.refl _ wr))
            clear HS12 rbl rcl pa pb pc pl hml7
            refine ⟨⟨k + 1, _, by omega, ?_, rfl, Lib.hid hst.symm, Lib.hid hbe⟩, ?_⟩
            all_goals clear hst hbe
            · go_num
            · simp [intOf]; omega
          ·
            refine wp_region_L (S := (fun W : World => W.cell? ⟨w.heap.size, 0, none⟩ = some (.int .i64 (C : Int)) ∧ W.cell? ⟨w.heap.size, 2, none⟩ = some (.slice (some ⟨rb, roff, none⟩) m c) ∧ W.cell? ⟨rb, roff + k * 2, none⟩ = some (.slice mb ml mc))) (L := []) (by kernel_rfl) (HS12.out _ (Below.drew (Below.refl _ wr))) (fun hHeld => ?_)
            refine tk 0 ?_ rfl hHeld ?_ ?_; rotate_left
            · intro w hSw; (try dsimp only at hSw); go_simp; try (with_reducible rfl)
            (try simp only [la, lb, lc, ld, lf, lg, lh])
            refine tk 1 ?_ rfl hHeld ?_ ?_; rotate_left
            · intro w hSw; (try dsimp only at hSw); go_simp; try (with_reducible rfl)
            (try simp only [la, lb, lc, ld, lf, lg, lh])
            refine tk 2 ?_ rfl hHeld ?_ ?_; rotate_left
            · intro w hSw; (try dsimp only at hSw); go_simp; try (with_reducible rfl)
            (try simp only [la, lb, lc, ld, lf, lg, lh])
            refine tk 3 ?_ rfl hHeld ?_ ?_; rotate_left
            · intro w hSw; (try dsimp only at hSw); go_simp; try (with_reducible rfl)
            (try simp only [la, lb, lc, ld, lf, lg, lh])
            refine tk 4 ?_ rfl hHeld ?_ ?_; rotate_left
            · intro w hSw; (try dsimp only at hSw); go_simp; try (with_reducible rfl)
            (try simp only [la, lb, lc, ld, lf, lg, lh])
            refine tk 5 ?_ rfl hHeld ?_ ?_; rotate_left
            · intro w hSw; (try dsimp only at hSw); go_simp; try (with_reducible rfl)
            (try simp only [la, lb, lc, ld, lf, lg, lh])
            refine tk 6 ?_ rfl hHeld ?_ ?_; rotate_left
            · intro w hSw; (try dsimp only at hSw); go_simp; try (with_reducible rfl)
            (try simp only [la, lb, lc, ld, lf, lg, lh])
            refine tk 7 ?_ rfl hHeld ?_ ?_; rotate_left
            · intro w hSw; (try dsimp only at hSw); go_simp; try (with_reducible rfl)
            (try simp only [la, lb, lc, ld, lf, lg, lh])
            refine tk 8 ?_ rfl hHeld ?_ ?_; rotate_left
            · intro w hSw; (try dsimp only at hSw); go_simp; try (with_reducible rfl)
            (try simp only [la, lb, lc, ld, lf, lg, lh])
            refine tk 9 ?_ rfl hHeld ?_ ?_; rotate_left
            · intro w hSw; (try dsimp only at hSw); go_simp; try (with_reducible rfl)
            (try simp only [la, lb, lc, ld, lf, lg, lh])
            refine tk 10 ?_ rfl hHeld ?_ ?_; rotate_left
            · intro w hSw; (try dsimp only at hSw); go_simp; try (with_reducible rfl)
            (try simp only [la, lb, lc, ld, lf, lg, lh])
            refine tk 11 ?_ rfl hHeld ?_ ?_; rotate_left
            · intro w hSw; (try dsimp only at hSw); go_simp; try (with_reducible rfl)
            (try simp only [la, lb, lc, ld, lf, lg, lh])
            refine tk 12 ?_ rfl hHeld ?_ ?_; rotate_left
            · intro w hSw; (try dsimp only at hSw); go_simp; try (with_reducible rfl)
            (try simp only [la, lb, lc, ld, lf, lg, lh])
            refine tk 13 ?_ rfl hHeld ?_ ?_; rotate_left
            · intro w hSw; (try dsimp only at hSw); go_simp; try (with_reducible rfl)
            (try simp only [la, lb, lc, ld, lf, lg, lh])
            refine tk 14 ?_ rfl hHeld ?_ ?_; rotate_left
            · intro w hSw; (try dsimp only at hSw); go_simp; try (with_reducible rfl)
            (try simp only [la, lb, lc, ld, lf, lg, lh])
            refine tk 15 ?_ rfl hHeld ?_ ?_; rotate_left
            · intro w hSw; (try dsimp only at hSw); go_simp; try (with_reducible rfl)
            (try simp only [la, lb, lc, ld, lf, lg, lh])
            refine tk 16 ?_ rfl hHeld ?_ ?_; rotate_left
            · intro w hSw; (try dsimp only at hSw); go_simp; try (with_reducible rfl)
            (try simp only [la, lb, lc, ld, lf, lg, lh])
            refine tk 17 ?_ rfl hHeld ?_ ?_; rotate_left
            · intro w hSw; (try dsimp only at hSw); go_simp; try (with_reducible rfl)
            (try simp only [la, lb, lc, ld, lf, lg, lh])
            refine tk 18 ?_ rfl hHeld ?_ ?_; rotate_left
            · intro w hSw; (try dsimp only at hSw); go_simp; try (with_reducible rfl)
            (try simp only [la, lb, lc, ld, lf, lg, lh])
            refine tk 19 ?_ rfl hHeld ?_ ?_; rotate_left
            · intro w hSw; (try dsimp only at hSw); go_simp; try (with_reducible rfl)
            (try simp only [la, lb, lc, ld, lf, lg, lh])
            refine tk 20 ?_ rfl hHeld ?_ ?_; rotate_left
            · intro w hSw; (try dsimp only at hSw); go_simp; try (with_reducible rfl)
            (try simp only [la, lb, lc, ld, lf, lg, lh])
            refine tk 21 ?_ rfl hHeld ?_ ?_; rotate_left
            · intro w hSw; (try dsimp only at hSw); go_simp; try (with_reducible rfl)
            (try simp only [la, lb, lc, ld, lf, lg, lh])
            refine tk 22 ?_ rfl hHeld ?_ ?_; rotate_left
            · intro w hSw; (try dsimp only at hSw); go_simp; try (with_reducible rfl)
            (try simp only [la, lb, lc, ld, lf, lg, lh])
            refine tk 23 ?_ rfl hHeld ?_ ?_; rotate_left
            · intro w hSw; (try dsimp only at hSw); go_simp; try (with_reducible rfl)
            (try simp only [la, lb, lc, ld, lf, lg, lh])
            refine wpAnyL_done (by kernel_rfl) ?_ _
            go_wp2_with fail
            have hst := Hst.out
            (try rw [d2] at hst)
            simp only [Bool.and_true, Bool.and_false, Bool.false_and, Bool.true_and] at hst
            have hbe := bt hb.out (Below.drew (Below.refl _ wr))
            clear HS12 rbl rcl pa pb pc pl hml7
            refine ⟨⟨k + 1, _, by omega, ?_, rfl, Lib.hid hst.symm, Lib.hid hbe⟩, ?_⟩
            all_goals clear hst hbe
            · go_num
            · simp [intOf]; omega
          ·
            refine wp_region_L (S := (fun W : World => W.cell? ⟨w.heap.size, 0, none⟩ = some (.int .i64 (C : Int)) ∧ W.cell? ⟨w.heap.size, 2, none⟩ = some (.slice (some ⟨rb, roff, none⟩) m c) ∧ W.cell? ⟨rb, roff + k * 2, none⟩ = some (.slice mb ml mc))) (L := []) (by kernel_rfl) (HS12.out _ (Below.drew (Below.refl _ wr))) (fun hHeld => ?_)
            refine tk 0 ?_ rfl hHeld ?_ ?_; rotate_left
            · intro w hSw; (try dsimp only at hSw); go_simp; try (with_reducible rfl)
            (try simp only [la, lb, lc, ld, lf, lg, lh])
            refine tk 1 ?_ rfl hHeld ?_ ?_; rotate_left
            · intro w hSw; (try dsimp only at hSw); go_simp; try (with_reducible rfl)
            (try simp only [la, lb, lc, ld, lf, lg, lh])
            refine tk 2 ?_ rfl hHeld ?_ ?_; rotate_left
            · intro w hSw; (try dsimp only at hSw); go_simp; try (with_reducible rfl)
            (try simp only [la, lb, lc, ld, lf, lg, lh])
            refine tk 3 ?_ rfl hHeld ?_ ?_; rotate_left
            · intro w hSw; (try dsimp only at hSw); go_simp; try (with_reducible rfl)
            (try simp only [la, lb, lc, ld, lf, lg, lh])
            refine tk 4 ?_ rfl hHeld ?_ ?_; rotate_left
            · intro w hSw; (try dsimp only at hSw); go_simp; try (with_reducible rfl)
            (try simp only [la, lb, lc, ld, lf, lg, lh])
            refine tk 5 ?_ rfl hHeld ?_ ?_; rotate_left
            · intro w hSw; (try dsimp only at hSw); go_simp; try (with_reducible rfl)
            (try simp only [la, lb, lc, ld, lf, lg, lh])
            refine tk 6 ?_ rfl hHeld ?_ ?_; rotate_left
            · intro w hSw; (try dsimp only at hSw); go_simp; try (with_reducible rfl)
            (try simp only [la, lb, lc, ld, lf, lg, lh])
            refine tk 7 ?_ rfl hHeld ?_ ?_; rotate_left
            · intro w hSw; (try dsimp only at hSw); go_simp; try (with_reducible rfl)
            (try simp only [la, lb, lc, ld, lf, lg, lh])
            refine tk 8 ?_ rfl hHeld ?_ ?_; rotate_left
            · intro w hSw; (try dsimp only at hSw); go_simp; try (with_reducible rfl)
            (try simp only [la, lb, lc, ld, lf, lg, lh])
            refine tk 9 ?_ rfl hHeld ?_ ?_; rotate_left
            · intro w hSw; (try dsimp only at hSw); go_simp; try (with_reducible rfl)
            (try simp only [la, lb, lc, ld, lf, lg, lh])
            refine tk 10 ?_ rfl hHeld ?_ ?_; rotate_left
            · intro w hSw; (try dsimp only at hSw); go_simp; try (with_reducible rfl)
            (try simp only [la, lb, lc, ld, lf, lg, lh])
            refine tk 11 ?_ rfl hHeld ?_ ?_; rotate_left
            · intro w hSw; (try dsimp only at hSw); go_simp; try (with_reducible rfl)
            (try simp only [la, lb, lc, ld, lf, lg, lh])
            refine tk 12 ?_ rfl hHeld ?_ ?_; rotate_left
            · intro w hSw; (try dsimp only at hSw); go_simp; try (with_reducible rfl)
            (try simp only [la, lb, lc, ld, lf, lg, lh])
            refine tk 13 ?_ rfl hHeld ?_ ?_; rotate_left
            · intro w hSw; (try dsimp only at hSw); go_simp; try (with_reducible rfl)
            (try simp only [la, lb, lc, ld, lf, lg, lh])
            refine tk 14 ?_ rfl hHeld ?_ ?_; rotate_left
            · intro w hSw; (try dsimp only at hSw); go_simp; try (with_reducible rfl)
            (try simp only [la, lb, lc, ld, lf, lg, lh])
            refine tk 15 ?_ rfl hHeld ?_ ?_; rotate_left
            · intro w hSw; (try dsimp only at hSw); go_simp; try (with_reducible rfl)
            (try simp only [la, lb, lc, ld, lf, lg, lh])
            refine tk 16 ?_ rfl hHeld ?_ ?_; rotate_left
            · intro w hSw; (try dsimp only at hSw); go_simp; try (with_reducible rfl)
            (try simp only [la, lb, lc, ld, lf, lg, lh])
            refine tk 17 ?_ rfl hHeld ?_ ?_; rotate_left
            · intro w hSw; (try dsimp only at hSw); go_simp; try (with_reducible rfl)
            (try simp only [la, lb, lc, ld, lf, lg, lh])
            refine tk 18 ?_ rfl hHeld ?_ ?_; rotate_left
            · intro w hSw; (try dsimp only at hSw); go_simp; try (with_reducible rfl)
            (try simp only [la, lb, lc, ld, lf, lg, lh])
            refine tk 19 ?_ rfl hHeld ?_ ?_; rotate_left
            · intro w hSw; (try dsimp only at hSw); go_simp; try (with_reducible rfl)
            (try simp only [la, lb, lc, ld, lf, lg, lh])
            refine tk 20 ?_ rfl hHeld ?_ ?_; rotate_left
            · intro w hSw; (try dsimp only at hSw); go_simp; try (with_reducible rfl)
            (try simp only [la, lb, lc, ld, lf, lg, lh])
            refine tk 21 ?_ rfl hHeld ?_ ?_; rotate_left
            · intro w hSw; (try dsimp only at hSw); go_simp; try (with_reducible rfl)
            (try simp only [la, lb, lc, ld, lf, lg, lh])
            refine tk 22 ?_ rfl hHeld ?_ ?_; rotate_left
            · intro w hSw; (try dsimp only at hSw); go_simp; try (with_reducible rfl)
            (try simp only [la, lb, lc, ld, lf, lg, lh])
            refine tk 23 ?_ rfl hHeld ?_ ?_; rotate_left
            · intro w hSw; (try dsimp only at hSw); go_simp; try (with_reducible rfl)
            (try simp only [la, lb, lc, ld, lf, lg, lh])
            refine wpAnyL_done (by kernel_rfl) ?_ _
            go_wp2_with fail
            have hst := Hst.out
            (try rw [d2] at hst)
            simp only [Bool.and_true, Bool.and_false, Bool.false_and, Bool.true_and] at hst
            have hbe := bt hb.out (Below.drew (Below.refl _ wr))
            clear HS12 rbl rcl pa pb pc pl hml7
            refine ⟨⟨k + 1, _, by omega, ?_, rfl, Lib.hid hst.symm, Lib.hid hbe⟩, ?_⟩
            all_goals clear hst hbe
            · go_num
            · simp [intOf]; omega
      · obtain rfl : m = k := by omega
        have hbk2 := hbk.out
        rw [List.take_of_length_le (by rw [Hm.out]; exact Nat.le_refl _)] at hbk2
        obtain ⟨w5, hw5⟩ : ∃ q, q = wr := ⟨_, rfl⟩
        rw [← hw5] at hb pa pb pc pl ⊢
        have Q5 := Lib.hid (bt q4.out hb.out)
        have GX5 := Lib.hid (keep_box hb.out GX.out)
        have HR5 : Hid (RRnds (fun b => b < w4.heap.size) w5 (.slice b2 nr d2) S.rounds) := Lib.hid (RRnds.same (.of_below hb.out) (RRnds.mono (fun _ h => h.2) HR.out.cut))
        have h45 := Lib.hid hb.out.size
        have Hbk := Lib.hid hbk2
        clear hb hbk hbk2 hw5 GX HR
        go_upto_region 14 with (first | (go_at_call 25; refine (HOf.out _).mono ?_; rintro e w6 ⟨a6, c6, b6, e6, rfl, kv, hb⟩; have B6 := Lib.hid hb; have V6 := Lib.hid kv; clear hb kv))
        obtain ⟨X6, hX6⟩ : ∃ W, W = w6.alloc (.cells #[.bool false, .slice a6 p1 c6, .slice b6 p2 e6] 51) := ⟨_, rfl⟩
        have hb6 : Below w6.heap.size w6 X6 := by rw [hX6]; exact below_new _ _
        have g6 : X6.heap[w6.heap.size]? = some (.cells #[.bool false, .slice a6 p1 c6, .slice b6 p2 e6] 51 (0, 0)) := by rw [hX6]; exact box_new _ _
        rw [← hX6]
        have R6 : Hid (RBox X6 w6.heap.size (bill 10000000)) := Lib.hid ⟨_, _, _, _, _, _, _, g6, V6.out.same (.of_below hb6)⟩
        have C6 := Lib.hid (bt B6.out hb6)
        clear hX6 hb6 g6 V6 B6
        go_upto_region 16 with (first | (go_at_call 26; refine (HWz.out _).mono ?_; rintro e w7 ⟨a7, c7, b7, e7, rfl, kv, hb⟩; have B7 := Lib.hid hb; have V7 := Lib.hid kv; clear hb kv))
        obtain ⟨X7, hX7⟩ : ∃ W, W = w7.alloc (.cells #[.bool false, .slice a7 0 c7, .slice b7 1 e7] 51) := ⟨_, rfl⟩
        have hb7 : Below w7.heap.size w7 X7 := by rw [hX7]; exact below_new _ _
        have g7 : X7.heap[w7.heap.size]? = some (.cells #[.bool false, .slice a7 0 c7, .slice b7 1 e7] 51 (0, 0)) := by rw [hX7]; exact box_new _ _
        rw [← hX7]
        have S0 : Hid (SumR w7 w7.heap.size [] [] (bill 0) X7 (.slice none 0 0) (.slice none 0 0)) := Lib.hid ⟨Own.nil _ _ _ _ _, Own.nil _ _ _ _ _, ApartV.nil _, ⟨_, _, _, _, _, _, _, g7, V7.out.low.same (.of_below hb7)⟩, hb7, Nat.le_refl _⟩
        have R7 := Lib.hid (R6.out.below B7.out)
        have Q7 := Lib.hid (bt Q5.out (bt C6.out B7.out))
        have GX7 := Lib.hid (keep_box (bt C6.out B7.out) GX5.out)
        have hle7 : w4.heap.size ≤ w7.heap.size := Nat.le_trans h45.out (bt C6.out B7.out).size
        have HR7 : Hid (RRnds (fun b => b < w7.heap.size) w7 (.slice b2 nr d2) S.rounds) := Lib.hid (RRnds.mono (fun b h => Nat.lt_of_lt_of_le h hle7) (RRnds.same (.of_below (bt C6.out B7.out)) HR5.out))
        clear hle7 h45
        clear hX7 hb7 g7 V7 R6 C6 B7 Q5 GX5 HR5
        go_wp2
        go_loopw [17, 18, 20] (fun ve vo i wr => ∃ k : Nat, k ≤ nr ∧ i = .int .i64 k ∧ Hid (SumR w7 w7.heap.size ((S.rounds.take k).flatMap Rnd.elected) ((S.rounds.take k).flatMap Rnd.out) (bill (lastG gl k)) wr ve vo)) (fun _ _ i _ => nr - (intOf i).toNat)
        case atStart => exact ⟨0, Nat.zero_le _, rfl, S0⟩
        case round =>
          obtain ⟨k, hk, rfl, hr⟩ := hrel
          obtain ⟨wv, rfl⟩ : ∃ q : World, q = wr := ⟨_, rfl⟩
          obtain ⟨o0, o1, o2, ol⟩ := box3 GX7.out hr.out.b
          by_cases hlt : k < nr
          · have hlr : k < S.rounds.length := by rw [Hnr.out]; exact hlt
            obtain ⟨xb, xoff, xd0, xd1, xd2, xd3, xd4, xd5, rfl, xS, xl, x0, x1, x2, x3, x4, x5, hx⟩ := RSl.at6 HR7.out k hlr
            obtain ⟨xs0, xn0, xt0, xs2, xn2, xt2, xs3, xn3, xt3, xs4, xn4, xt4, xs5, xn5, xt5, rfl, rfl, rfl, rfl, rfl, rfl, v0, v1, v4, v5⟩ := hx.open
            have hsm := Same.of_below (S := Any) hr.out.b
            replace x0 := hsm.cell trivial x0
            replace x1 := hsm.cell trivial x1
            replace x2 := hsm.cell trivial x2
            replace x3 := hsm.cell trivial x3
            replace x4 := hsm.cell trivial x4
            replace x5 := hsm.cell trivial x5
            have hxl : xb < wv.heap.size := Nat.lt_of_lt_of_le xl hr.out.b.size
            obtain ⟨y1, y2, y3, y4, y5, y6, y7, y8⟩ := HRg.out k hlr
            have hst1 := flat_takeR (f := Rnd.elected) hlr
            have hst2 := flat_takeR (f := Rnd.out) hlr
            obtain ⟨H, hH⟩ : ∃ l, gh k = l := ⟨_, rfl⟩
            rw [hH] at y1 y3 y4 y6 y7 y8
            obtain ⟨ln, hln⟩ : ∃ n : Nat, gl k = (n : Int) := ⟨(gl k).toNat, by omega⟩
            have hll1 : ln ≤ 1000000000000000 := by omega
            have hlast : 0 ≤ lastG gl k ∧ lastG gl k ≤ ln ∧ lastG gl (k + 1) = ln := by
              refine ⟨?_, ?_, by rw [lastG, if_neg (by omega), Nat.add_sub_cancel]; exact hln⟩
              · unfold lastG; split
                · omega
                · exact (HRg.out (k - 1) (by omega)).2.2.2.2.1.1
              · unfold lastG; split
                · omega
                · have := HGr.out (k - 1) (by omega)
                  rw [show k - 1 + 1 = k by omega, hln] at this
                  exact this
            have hfull : b = true → ln < 10000000 := fun e => by
              have := HFu.out (by rw [← Hbk.out]; exact e) k hlr
              omega
            rw [hln] at y2 y6
            obtain ⟨pn, hpn⟩ : ∃ n : Nat, lastG gl k = (n : Int) := ⟨(lastG gl k).toNat, by omega⟩
            obtain ⟨r, hrr⟩ : ∃ r, S.rounds[k] = r := ⟨_, rfl⟩
            rw [hrr] at hst1 hst2 v0 v1 v4 v5 x1 y1 y2
            have hneg : r.lost.neg = false := by rw [y2, bill_of]
            rw [hneg] at x1 v1
            rw [y1] at v0
            rw [y2] at v1
            obtain rfl : xn0 = C := (RSl.len v0).trans (by rw [List.length_map]; exact y3)
            obtain ⟨ne, hne⟩ : ∃ n, r.elected.length = n := ⟨_, rfl⟩
            obtain ⟨no, hno⟩ : ∃ n, r.out.length = n := ⟨_, rfl⟩
            obtain rfl : xn4 = ne := (RSl.len v4).trans hne
            obtain rfl : xn5 = no := (RSl.len v5).trans hno
            have hG1 := Hgone.out
            rw [gon_len] at hG1
            have hle1 := flat_leR (f := Rnd.elected) (rds := S.rounds) (k := k + 1)
            have hle2 := flat_leR (f := Rnd.out) (rds := S.rounds) (k := k + 1)
            rw [hst1, List.length_append] at hle1
            rw [hst2, List.length_append] at hle2
            rw [hpn] at hr hlast
            obtain ⟨E, hE⟩ : ∃ l, (S.rounds.take k).flatMap Rnd.elected = l := ⟨_, rfl⟩
            obtain ⟨O, hO⟩ : ∃ l, (S.rounds.take k).flatMap Rnd.out = l := ⟨_, rfl⟩
            rw [hE] at hst1 hle1 hr y7
            rw [hO] at hst2 hle2 hr y8
            have hel : E.length + xn4 ≤ 10 := by omega
            have hol : O.length + xn5 ≤ 10 := by omega
            have y6' : (H.sum + ln : Int) = V * 1000000000 := y6
            obtain ⟨X1, hX1⟩ : ∃ W, W = wv.alloc (.cells #[.slice xs0 xn0 xt0, .bool false, .slice xs2 xn2 xt2, .slice xs3 xn3 xt3, .slice xs4 xn4 xt4, .slice xs5 xn5 xt5] 53) := ⟨_, rfl⟩
            have hbX1 : Below wv.heap.size wv X1 := by rw [hX1]; exact below_new _ _
            have gX1 : X1.heap[wv.heap.size]? = some (.cells #[.slice xs0 xn0 xt0, .bool false, .slice xs2 xn2 xt2, .slice xs3 xn3 xt3, .slice xs4 xn4 xt4, .slice xs5 xn5 xt5] 53 (0, 0)) := by rw [hX1]; exact box_new _ _
            have KC : Hid (∀ W : World, W.heap[wv.heap.size]? = some (.cells #[.slice xs0 xn0 xt0, .bool false, .slice xs2 xn2 xt2, .slice xs3 xn3 xt3, .slice xs4 xn4 xt4, .slice xs5 xn5 xt5] 53 (0, 0)) → W.cell? ⟨wv.heap.size, 0, none⟩ = some (.slice xs0 xn0 xt0) ∧ W.cell? ⟨wv.heap.size, 1, none⟩ = some (.bool false) ∧ W.cell? ⟨wv.heap.size, 2, none⟩ = some (.slice xs2 xn2 xt2) ∧ W.cell? ⟨wv.heap.size, 3, none⟩ = some (.slice xs3 xn3 xt3) ∧ W.cell? ⟨wv.heap.size, 4, none⟩ = some (.slice xs4 xn4 xt4) ∧ W.cell? ⟨wv.heap.size, 5, none⟩ = some (.slice xs5 xn5 xt5) ∧ wv.heap.size < W.heap.size) := Lib.hid fun W h => ⟨(own_box (Below.refl _ W) (size_of_box h) h).2.1 0, (own_box (Below.refl _ W) (size_of_box h) h).2.1 1, (own_box (Below.refl _ W) (size_of_box h) h).2.1 2, (own_box (Below.refl _ W) (size_of_box h) h).2.1 3, (own_box (Below.refl _ W) (size_of_box h) h).2.1 4, (own_box (Below.refl _ W) (size_of_box h) h).2.1 5, size_of_box h⟩
            have hwr := hr.out.b.size
            have V0 : Hid (RRts (fun b => b < w7.heap.size) w7 (.slice xs0 xn0 xt0) (H.map bill)) := Lib.hid v0
            have V1 := Lib.hid v1; have V4 := Lib.hid v4; have V5 := Lib.hid v5; have Hst1 := Lib.hid hst1; have Hst2 := Lib.hid hst2; have Y3 := Lib.hid y3; have Y4 := Lib.hid y4; have Y6 := Lib.hid y6'; have Y7 := Lib.hid y7; have Y8 := Lib.hid y8; have Hne := Lib.hid hne; have Hno := Lib.hid hno; have Hfull := Lib.hid hfull; have Hlast := Lib.hid hlast; have Hel2 := Lib.hid hel; have Hol2 := Lib.hid hol; have GX1 := Lib.hid gX1; have BX1 := Lib.hid hbX1; have HX1 := Lib.hid hX1; have Hl1 := Lib.hid hll1
            clear v0 v1 v4 v5 hst1 hst2 y1 y2 y3 y4 y5 y6 y6' y7 y8 hne hno hfull hlast hel hol gX1 hbX1 hX1 hle1 hle2 hG1 hx xS xl hln hH hrr hneg hpn hE hO hll1 hsm
            go_upto_region 20 with fail
            rw [← HX1.out]
            clear x0 x1 x2 x3 x4 x5 o0 o1 o2 ol
            obtain ⟨z0, z1, z2, z3, z4, z5, zl⟩ := KC.out X1 GX1.out
            go_upto_region 21 with fail
            obtain ⟨X2, hX2⟩ : ∃ W, W = X1.alloc (.cells #[.bool false, .slice xs2 xn2 xt2, .slice xs3 xn3 xt3] 51) := ⟨_, rfl⟩
            rw [← hX2]
            have hbX2 : Below X1.heap.size X1 X2 := by rw [hX2]; exact below_new _ _
            have gX2 : X2.heap[X1.heap.size]? = some (.cells #[.bool false, .slice xs2 xn2 xt2, .slice xs3 xn3 xt3] 51 (0, 0)) := by rw [hX2]; exact box_new _ _
            have R22 : Hid (RBox X2 X1.heap.size (bill ((ln : Int) + (H.take 0).sum))) := Lib.hid ⟨_, _, _, _, _, _, _, gX2, by rw [List.take_zero, List.sum_nil, Int.add_zero]; exact VRt.any (V1.out.same (.of_below (bt hr.out.b (bt BX1.out hbX2))))⟩
            have BX2 := Lib.hid hbX2
            clear hX2 hbX2 gX2 z0 z1 z2 z3 z4 z5 zl
            go_wp2
            go_loopw [23] (fun i wr => ∃ j : Nat, j ≤ xn0 ∧ i = .int .i64 j ∧ Hid (Below X1.heap.size X1 wr) ∧ Hid (RBox wr X1.heap.size (bill ((ln : Int) + (H.take j).sum)))) (fun i _ => xn0 - (intOf i).toNat)
            case atStart => exact ⟨0, Nat.zero_le _, rfl, BX2, R22⟩
            case round =>
              obtain ⟨j, hj, rfl, hbi, hri⟩ := hrel
              have gi := (hbi.out.block _ (size_of_box GX1.out)).trans GX1.out
              obtain ⟨z0, z1, z2, z3, z4, z5, zl⟩ := KC.out wr gi
              have hb7i := Lib.hid (bt hr.out.b (bt BX1.out hbi.out))
              by_cases hlt2 : j < xn0
              · have hjr : j < (H.map bill).length := by rw [List.length_map, Y3.out]; exact hlt2
                have hjH : j < H.length := by rw [Y3.out]; exact hlt2
                obtain ⟨hb_, hoff, d0, d1, d2, rfl, hS3, hsz3, k0, k1, k2, kd⟩ := RSl.at3 V0.out j hjr
                have hv := VRt.from kd
                rw [List.getElem_map, ← gI_at hjH] at hv
                have y4 := Y4.out j
                have hsb := take_bound (fun x => Y4.out x) j (by omega)
                have hst := sum_take hjH
                obtain ⟨hn, hhn⟩ : ∃ n : Nat, gI H j = (n : Int) := ⟨(gI H j).toNat, by omega⟩
                obtain ⟨an, han⟩ : ∃ n : Nat, (ln : Int) + (H.take j).sum = (n : Int) := ⟨((ln : Int) + (H.take j).sum).toNat, by omega⟩
                have hsum : (ln : Int) + (H.take (j + 1)).sum = ((an + hn : Nat) : Int) := by omega
                have hj10 : j ≤ 10 := by omega
                have hsb2 : (H.take j).sum ≤ 10000000000000000 := by
                  have := hsb.2
                  have h9 : (j : Int) * 1000000000000000 ≤ 10 * 1000000000000000 := Int.mul_le_mul_of_nonneg_right (by omega) (by omega)
                  omega
                have hl1 := Hl1.out
                have han2 : an ≤ 2000000000000000000 := by omega
                have hhn2 : hn ≤ 2000000000000000000 := by omega
                have y7 := Y7.out j hlt2
                have y8 := Y8.out j hlt2
                rw [hhn] at hv y7 y8
                rw [han] at hri
                have hv0 := hv
                rw [bill_of] at hv
                obtain ⟨vn, vd, he, h1, h2⟩ := hv
                simp only [Value.agg.injEq, Array.mk.injEq, List.cons.injEq, and_true] at he
                obtain ⟨rfl, rfl, rfl⟩ := he
                obtain ⟨u3, m3, rfl, -, -⟩ := RSl.shape h1
                obtain ⟨u4, m4, rfl, -, -⟩ := RSl.shape h2
                have hz : hn = 0 → (lim (bn hn)).length = 0 := fun e => by rw [e, show bn 0 = 0 from Nat.zero_div _, lim_zero]; rfl
                dsimp only at hv0 k0 k1 k2
                obtain ⟨l3, hl3⟩ : ∃ n, (lim (bn hn)).length = n := ⟨_, rfl⟩
                obtain ⟨l4, hl4⟩ : ∃ n, (lim (bd hn)).length = n := ⟨_, rfl⟩
                rw [hl3] at hz k1
                rw [hl4] at k2
                rw [hl3, hl4] at hv0
                have hsm2 := Same.of_below (S := Any) hb7i.out
                replace k0 := hsm2.cell trivial k0
                replace k1 := hsm2.cell trivial k1
                replace k2 := hsm2.cell trivial k2
                obtain ⟨bb, u1, l1, m1, u2, l2, m2, hg22, hv22⟩ := hri.out
                have V22 := Lib.hid hv22
                have HVc := Lib.hid (VRt.any hv0 |>.same hsm2)
                have hS24 : ∀ W : World, Below wr.heap.size wr W → (fun W : World => W.cell? ⟨X1.heap.size, 0, none⟩ = some (.bool bb) ∧ W.cell? ⟨X1.heap.size, 1, none⟩ = some (.slice u1 l1 m1) ∧ W.cell? ⟨X1.heap.size, 2, none⟩ = some (.slice u2 l2 m2) ∧ W.cell? ⟨wv.heap.size, 0, none⟩ = some (.slice (some ⟨hb_, hoff, none⟩) xn0 xt0) ∧ W.cell? ⟨hb_, hoff + j * 3, none⟩ = some (.bool false) ∧ W.cell? ⟨hb_, hoff + j * 3 + 1, none⟩ = some (.slice u3 l3 m3) ∧ W.cell? ⟨hb_, hoff + j * 3 + 2, none⟩ = some (.slice u4 l4 m4)) W := fun W hW => by
                  obtain ⟨q0, q1, q2, -⟩ := box3 hg22 hW
                  have hs := Same.of_below (S := Any) hW
                  exact ⟨q0, q1, q2, hs.cell trivial z0, hs.cell trivial k0, hs.cell trivial k1, hs.cell trivial k2⟩
                have hAdd := fun W u v (k1 : VRt Any W u (bill an)) (k2 : VRt Any W v (bill hn)) => r4AddB Any Any u v an hn W k1 k2 han2 hhn2
                unfold GivesPQ at hAdd
                have HS24 := Lib.hid hS24; have HAdd := Lib.hid hAdd; have Hsum := Lib.hid hsum; have HY7 := Lib.hid y7; have HY8 := Lib.hid y8; have Hz := Lib.hid hz; have Hhn2 := Lib.hid hhn2
                clear hS24 hAdd hsum y7 y8 hz hsm2 hv0 h1 h2 hl3 hl4 hg22 hv22 kd hS3 hsz3 hjr hjH hsb hst hsb2 hhn han hl1 y4 han2 hhn2 gi
                go_upto_region 24 with fail
                clear z0 z1 z2 z3 z4 z5 zl k0 k1 k2
                go_cut [24, 25] from 120 to 129 (fun s24 s25 wc => NewB wr (an + hn) s24 s25 wc)
                case first =>
                  refine wp_region_L (S := (fun W : World => W.cell? ⟨X1.heap.size, 0, none⟩ = some (.bool bb) ∧ W.cell? ⟨X1.heap.size, 1, none⟩ = some (.slice u1 l1 m1) ∧ W.cell? ⟨X1.heap.size, 2, none⟩ = some (.slice u2 l2 m2) ∧ W.cell? ⟨wv.heap.size, 0, none⟩ = some (.slice (some ⟨hb_, hoff, none⟩) xn0 xt0) ∧ W.cell? ⟨hb_, hoff + j * 3, none⟩ = some (.bool false) ∧ W.cell? ⟨hb_, hoff + j * 3 + 1, none⟩ = some (.slice u3 l3 m3) ∧ W.cell? ⟨hb_, hoff + j * 3 + 2, none⟩ = some (.slice u4 l4 m4))) (L := []) (by kernel_rfl) (HS24.out _ (Below.drew (Below.refl _ wr))) (fun hHeld => ?_)
                  refine tk 0 ?_ rfl hHeld ?_ ?_; rotate_left
                  · intro w hSw; (try dsimp only at hSw); go_simp; try (with_reducible rfl)
                  (try simp only [la, lb, lc, ld, lf, lg, lh])
                  refine tk 1 ?_ rfl hHeld ?_ ?_; rotate_left
                  · intro w hSw; (try dsimp only at hSw); go_simp; try (with_reducible rfl)
                  (try simp only [la, lb, lc, ld, lf, lg, lh])
                  refine tk 2 ?_ rfl hHeld ?_ ?_; rotate_left
                  · intro w hSw; (try dsimp only at hSw); go_simp; try (with_reducible rfl)
                  (try simp only [la, lb, lc, ld, lf, lg, lh])
                  refine tk 3 ?_ rfl hHeld ?_ ?_; rotate_left
                  · intro w hSw; (try dsimp only at hSw); go_simp; try (with_reducible rfl)
                  (try simp only [la, lb, lc, ld, lf, lg, lh])
                  refine tk 4 ?_ rfl hHeld ?_ ?_; rotate_left
                  · intro w hSw; (try dsimp only at hSw); go_simp; try (with_reducible rfl)
                  (try simp only [la, lb, lc, ld, lf, lg, lh])
                  refine tk 5 ?_ rfl hHeld ?_ ?_; rotate_left
                  · intro w hSw; (try dsimp only at hSw); go_simp; try (with_reducible rfl)
                  (try simp only [la, lb, lc, ld, lf, lg, lh])
                  refine wpAnyL_two (i := 6) (j := 10) (by kernel_rfl) rfl rfl (fun K hK => ?_) (fun K hK => ?_)
                  ·
                    (go_simp; go_at_call 27; refine (HAdd.out _ _ _ (V22.out.same (.of_below (Below.drew (Below.refl _ wr)))) (HVc.out.same (.of_below (Below.drew (Below.refl _ wr))))).mono ?_; rintro e w8 ⟨a8, c8, b8, e8, rfl, k8, k9, hb8⟩; have T8 := Lib.hid hb8; have B8 := Lib.hid (bt (Below.drew (Below.refl _ wr)) hb8); have K8 := Lib.hid k8; have K9 := Lib.hid k9; clear k8 k9 hb8)
                    refine hK.out _ _ (HS24.out _ B8.out) (fun hHeld => ?_)
                    clear hK K
                    (try simp only [la, lb, lc, ld, lf, lg, lh])
                    refine tk 7 ?_ rfl hHeld ?_ ?_; rotate_left
                    · intro w hSw; (try dsimp only at hSw); go_simp; try (with_reducible rfl)
                    (try simp only [la, lb, lc, ld, lf, lg, lh])
                    refine tk 8 ?_ rfl hHeld ?_ ?_; rotate_left
                    · intro w hSw; (try dsimp only at hSw); go_simp; try (with_reducible rfl)
                    (try simp only [la, lb, lc, ld, lf, lg, lh])
                    refine tk 9 ?_ rfl hHeld ?_ ?_; rotate_left
                    · intro w hSw; (try dsimp only at hSw); go_simp; try (with_reducible rfl)
                    (try simp only [la, lb, lc, ld, lf, lg, lh])
                    refine wpAnyL_one (i := 10) (by kernel_rfl) rfl (fun K hK => ?_)
                    go_simp
                    refine hK.out _ _ (HS24.out _ (bt B8.out (below_new _ _))) (fun hHeld => ?_)
                    clear hK K
                    (try simp only [la, lb, lc, ld, lf, lg, lh])
                    refine wpAnyL_one (i := 11) (by kernel_rfl) rfl (fun K hK => ?_)
                    go_simp
                    refine hK.out _ _ (HS24.out _ (bt B8.out (by first | exact below_new _ _ | exact ((((below_new _ _).setCell (p := ⟨w8.heap.size, 0, none⟩) (Nat.le_refl _) _).setCell (p := ⟨w8.heap.size, 1, none⟩) (Nat.le_refl _) _).setCell (p := ⟨w8.heap.size, 2, none⟩) (Nat.le_refl _) _)))) (fun hHeld => ?_)
                    clear hK K
                    (try simp only [la, lb, lc, ld, lf, lg, lh])
                    refine tk 12 ?_ rfl hHeld ?_ ?_; rotate_left
                    · intro w hSw; (try dsimp only at hSw); go_simp; try (with_reducible rfl)
                    (try simp only [la, lb, lc, ld, lf, lg, lh])
                    refine wpAnyL_done (by kernel_rfl) ?_ _
                    go_wp2_with fail
                    go_meet
                    first | exact NewB.late K8.out K9.out B8.out | exact NewB.laid K8.out K9.out B8.out
                  ·
                    go_simp
                    refine hK.out _ _ (HS24.out _ (below_new wr (.cells #[.bool false, .slice none 0 0, .slice none 0 0] 51)).drew) (fun hHeld => ?_)
                    clear hK K
                    (try simp only [la, lb, lc, ld, lf, lg, lh])
                    refine wpAnyL_one (i := 6) (by kernel_rfl) rfl (fun K hK => ?_)
                    (go_simp; go_at_call 27; refine (HAdd.out _ _ _ (V22.out.same (.of_below (below_new wr (.cells #[.bool false, .slice none 0 0, .slice none 0 0] 51)).drew)) (HVc.out.same (.of_below (below_new wr (.cells #[.bool false, .slice none 0 0, .slice none 0 0] 51)).drew))).mono ?_; rintro e w8 ⟨a8, c8, b8, e8, rfl, k8, k9, hb8⟩; have T8 := Lib.hid hb8; have B8 := Lib.hid (bt (below_new wr (.cells #[.bool false, .slice none 0 0, .slice none 0 0] 51)).drew hb8); have K8 := Lib.hid k8; have K9 := Lib.hid k9; clear k8 k9 hb8)
                    refine hK.out _ _ (HS24.out _ B8.out) (fun hHeld => ?_)
                    clear hK K
                    (try simp only [la, lb, lc, ld, lf, lg, lh])
                    refine tk 7 ?_ rfl hHeld ?_ ?_; rotate_left
                    · intro w hSw; (try dsimp only at hSw); go_simp; try (with_reducible rfl)
                    (try simp only [la, lb, lc, ld, lf, lg, lh])
                    refine tk 8 ?_ rfl hHeld ?_ ?_; rotate_left
                    · intro w hSw; (try dsimp only at hSw); go_simp; try (with_reducible rfl)
                    (try simp only [la, lb, lc, ld, lf, lg, lh])
                    refine tk 9 ?_ rfl hHeld ?_ ?_; rotate_left
                    · intro w hSw; (try dsimp only at hSw); go_simp; try (with_reducible rfl)
                    (try simp only [la, lb, lc, ld, lf, lg, lh])
                    have gA := Lib.hid (T8.out.block _ (by simp) |>.trans (box_new wr (.cells #[.bool false, .slice none 0 0, .slice none 0 0] 51)))
                    obtain ⟨-, zA, fA⟩ := own_box (Below.refl _ w8) (size_of_box gA.out) gA.out
                    have zA0 := zA 0; have zA1 := zA 1; have zA2 := zA 2; have fA0 := fA 0; have fA1 := fA 1; have fA2 := fA 2
                    clear zA fA
                    refine wpAnyL_one (i := 11) (by kernel_rfl) rfl (fun K hK => ?_)
                    go_simp
                    refine hK.out _ _ (HS24.out _ (((B8.out.setCell (p := ⟨wr.heap.size, 0, none⟩) (Nat.le_refl _) _).setCell (p := ⟨wr.heap.size, 1, none⟩) (Nat.le_refl _) _).setCell (p := ⟨wr.heap.size, 2, none⟩) (Nat.le_refl _) _)) (fun hHeld => ?_)
                    clear hK K
                    (try simp only [la, lb, lc, ld, lf, lg, lh])
                    refine tk 12 ?_ rfl hHeld ?_ ?_; rotate_left
                    · intro w hSw; (try dsimp only at hSw); go_simp; try (with_reducible rfl)
                    (try simp only [la, lb, lc, ld, lf, lg, lh])
                    refine wpAnyL_done (by kernel_rfl) ?_ _
                    go_wp2_with fail
                    go_meet
                    exact NewB.stored gA.out K8.out K9.out B8.out (Nat.le_refl _)
                case rest =>
                  obtain ⟨g24, rfl, rfl, hbox24, hbc, hge⟩ := hcut
                  have HBc := Lib.hid hbc; have B24 := Lib.hid hbox24
                  have hS25 : ∀ W : World, Below wc.heap.size wc W → (fun W : World => W.cell? ⟨wv.heap.size, 0, none⟩ = some (.slice (some ⟨hb_, hoff, none⟩) xn0 xt0) ∧ W.cell? ⟨hb_, hoff + j * 3, none⟩ = some (.bool false) ∧ W.cell? ⟨hb_, hoff + j * 3 + 1, none⟩ = some (.slice u3 l3 m3) ∧ W.cell? ⟨hb_, hoff + j * 3 + 2, none⟩ = some (.slice u4 l4 m4)) W := fun W hW => by
                    obtain ⟨-, -, -, q0, q1, q2, q3⟩ := HS24.out W (bt HBc.out hW)
                    exact ⟨q0, q1, q2, q3⟩
                  have hAll := bt BX1.out (bt hbi.out hbc)
                  have hInE := fun (W : World) (hW : Below wc.heap.size wc W) => in_c _ _ E j W (RInts.same (.of_below (bt hAll hW)) (Own.ints hr.out.a (by have := Hel2.out; omega)))
                  have hInO := fun (W : World) (hW : Below wc.heap.size wc W) => in_c _ _ O j W (RInts.same (.of_below (bt hAll hW)) (Own.ints hr.out.o (by have := Hol2.out; omega)))
                  obtain ⟨b1_, hb1⟩ : ∃ x, hasI E j = x := ⟨_, rfl⟩
                  obtain ⟨b2_, hb2⟩ : ∃ x, hasI O j = x := ⟨_, rfl⟩
                  have hm1 : b1_ = true → (hn : Int) = q * 1000000000 := fun e => HY7.out (by rw [← List.contains_iff_mem]; exact hb1.trans e)
                  have hm2 : b2_ = true → hn = 0 := fun e => by have := HY8.out (by rw [← List.contains_iff_mem]; exact hb2.trans e); omega
                  have hvc := HVc.out.same (w' := wc) (.of_below hbc)
                  have HS25 := Lib.hid hS25; have HInE := Lib.hid hInE; have HInO := Lib.hid hInO; have Hvc := Lib.hid hvc
                  clear hbc hge hbox24 hS25 hAll hInE hInO hvc
                  go_upto_region 25 with fail
                  cases b1_ with
                  | true =>
                    have hq := hm1 rfl
                    have hb0 : b2_ = false := by
                      cases b2_ with
                      | false => rfl
                      | true => have := hm2 rfl; have := HQb.out; omega
                    rw [hb0] at hb2
                    have HVq := Hvc
                    rw [hq] at HVq
                    clear hm1 hm2 hb0 hq
                    refine wp_region_L (S := (fun W : World => W.cell? ⟨wv.heap.size, 0, none⟩ = some (.slice (some ⟨hb_, hoff, none⟩) xn0 xt0) ∧ W.cell? ⟨hb_, hoff + j * 3, none⟩ = some (.bool false) ∧ W.cell? ⟨hb_, hoff + j * 3 + 1, none⟩ = some (.slice u3 l3 m3) ∧ W.cell? ⟨hb_, hoff + j * 3 + 2, none⟩ = some (.slice u4 l4 m4))) (L := []) (by kernel_rfl) (HS25.out _ (Below.drew (Below.refl _ wc))) (fun hHeld => ?_)
                    refine tk 0 ?_ rfl hHeld ?_ ?_; rotate_left
                    · intro w hSw; (try dsimp only at hSw); go_simp; try (with_reducible rfl)
                    (try simp only [la, lb, lc, ld, lf, lg, lh])
                    refine tk 1 ?_ rfl hHeld ?_ ?_; rotate_left
                    · intro w hSw; (try dsimp only at hSw); go_simp; try (with_reducible rfl)
                    (try simp only [la, lb, lc, ld, lf, lg, lh])
                    refine tk 2 ?_ rfl hHeld ?_ ?_; rotate_left
                    · intro w hSw; (try dsimp only at hSw); go_simp; try (with_reducible rfl)
                    (try simp only [la, lb, lc, ld, lf, lg, lh])
                    refine tk 3 ?_ rfl hHeld ?_ ?_; rotate_left
                    · intro w hSw; (try dsimp only at hSw); go_simp; try (with_reducible rfl)
                    (try simp only [la, lb, lc, ld, lf, lg, lh])
                    refine tk 4 ?_ rfl hHeld ?_ ?_; rotate_left
                    · intro w hSw; (try dsimp only at hSw); go_simp; try (with_reducible rfl)
                    (try simp only [la, lb, lc, ld, lf, lg, lh])
                    refine wpAnyL_one (i := 5) (by kernel_rfl) rfl (fun K hK => ?_)
                    (go_simp; go_at_call 23; refine (HInE.out _ (Below.drew (Below.refl _ wc))).mono ?_; rintro e wa ⟨rfl, hba⟩; rw [hb1]; have Ba := Lib.hid (bt (Below.drew (Below.refl _ wc)) hba); clear hba)
                    refine hK.out _ _ (HS25.out _ Ba.out) (fun hHeld => ?_)
                    clear hK K
                    (try simp only [la, lb, lc, ld, lf, lg, lh])
                    refine tk 6 ?_ rfl hHeld ?_ ?_; rotate_left
                    · intro w hSw; (try dsimp only at hSw); go_simp; try (with_reducible rfl)
                    (try simp only [la, lb, lc, ld, lf, lg, lh])
                    refine tk 7 ?_ rfl hHeld ?_ ?_; rotate_left
                    · intro w hSw; (try dsimp only at hSw); go_simp; try (with_reducible rfl)
                    (try simp only [la, lb, lc, ld, lf, lg, lh])
                    refine tk 8 ?_ rfl hHeld ?_ ?_; rotate_left
                    · intro w hSw; (try dsimp only at hSw); go_simp; try (with_reducible rfl)
                    (try simp only [la, lb, lc, ld, lf, lg, lh])
                    refine tk 9 ?_ rfl hHeld ?_ ?_; rotate_left
                    · intro w hSw; (try dsimp only at hSw); go_simp; try (with_reducible rfl)
                    (try simp only [la, lb, lc, ld, lf, lg, lh])
                    refine tk 10 ?_ rfl hHeld ?_ ?_; rotate_left
                    · intro w hSw; (try dsimp only at hSw); go_simp; try (with_reducible rfl)
                    (try simp only [la, lb, lc, ld, lf, lg, lh])
                    refine tk 11 ?_ rfl hHeld ?_ ?_; rotate_left
                    · intro w hSw; (try dsimp only at hSw); go_simp; try (with_reducible rfl)
                    (try simp only [la, lb, lc, ld, lf, lg, lh])
                    refine tk 12 ?_ rfl hHeld ?_ ?_; rotate_left
                    · intro w hSw; (try dsimp only at hSw); go_simp; try (with_reducible rfl)
                    (try simp only [la, lb, lc, ld, lf, lg, lh])
                    refine wpAnyL_one (i := 13) (by kernel_rfl) rfl (fun K hK => ?_)
                    (go_simp; go_at_call 26; refine (HWq.out _).mono ?_; rintro e wb ⟨ab, cb, bb', eb, rfl, kb, hbb⟩; have Bb := Lib.hid (bt Ba.out hbb); have Kb := Lib.hid kb; clear kb hbb)
                    refine hK.out _ _ (HS25.out _ Bb.out) (fun hHeld => ?_)
                    clear hK K
                    (try simp only [la, lb, lc, ld, lf, lg, lh])
                    refine wpAnyL_one (i := 14) (by kernel_rfl) rfl (fun K hK => ?_)
                    (go_simp; go_at_call 28; refine (r04Same_eq Any Any _ _ _ _ (HVq.out.same (.of_below Bb.out)) Kb.out).mono ?_; rintro e we ⟨rfl, hbe⟩; have Be := Lib.hid (bt Bb.out hbe); clear hbe)
                    refine hK.out _ _ (HS25.out _ Be.out) (fun hHeld => ?_)
                    clear hK K
                    (try simp only [la, lb, lc, ld, lf, lg, lh])
                    refine tk 15 ?_ rfl hHeld ?_ ?_; rotate_left
                    · intro w hSw; (try dsimp only at hSw); go_simp; try (with_reducible rfl)
                    (try simp only [la, lb, lc, ld, lf, lg, lh])
                    refine tk 16 ?_ rfl hHeld ?_ ?_; rotate_left
                    · intro w hSw; (try dsimp only at hSw); go_simp; try (with_reducible rfl)
                    (try simp only [la, lb, lc, ld, lf, lg, lh])
                    refine tk 17 ?_ rfl hHeld ?_ ?_; rotate_left
                    · intro w hSw; (try dsimp only at hSw); go_simp; try (with_reducible rfl)
                    (try simp only [la, lb, lc, ld, lf, lg, lh])
                    refine tk 18 ?_ rfl hHeld ?_ ?_; rotate_left
                    · intro w hSw; (try dsimp only at hSw); go_simp; try (with_reducible rfl)
                    (try simp only [la, lb, lc, ld, lf, lg, lh])
                    refine tk 19 ?_ rfl hHeld ?_ ?_; rotate_left
                    · intro w hSw; (try dsimp only at hSw); go_simp; try (with_reducible rfl)
                    (try simp only [la, lb, lc, ld, lf, lg, lh])
                    refine tk 20 ?_ rfl hHeld ?_ ?_; rotate_left
                    · intro w hSw; (try dsimp only at hSw); go_simp; try (with_reducible rfl)
                    (try simp only [la, lb, lc, ld, lf, lg, lh])
                    refine wpAnyL_one (i := 21) (by kernel_rfl) rfl (fun K hK => ?_)
                    (go_simp; go_at_call 23; refine (HInO.out _ Be.out).mono ?_; rintro e wd ⟨rfl, hbd⟩; rw [hb2]; have Bd := Lib.hid (bt Be.out hbd); clear hbd)
                    refine hK.out _ _ (HS25.out _ Bd.out) (fun hHeld => ?_)
                    clear hK K
                    (try simp only [la, lb, lc, ld, lf, lg, lh])
                    refine tk 22 ?_ rfl hHeld ?_ ?_; rotate_left
                    · intro w hSw; (try dsimp only at hSw); go_simp; try (with_reducible rfl)
                    (try simp only [la, lb, lc, ld, lf, lg, lh])
                    refine tu 23 rfl hHeld ?_
                    (try simp only [la, lb, lc, ld, lf, lg, lh])
                    refine tu 24 rfl hHeld ?_
                    (try simp only [la, lb, lc, ld, lf, lg, lh])
                    refine tu 25 rfl hHeld ?_
                    (try simp only [la, lb, lc, ld, lf, lg, lh])
                    refine tu 26 rfl hHeld ?_
                    (try simp only [la, lb, lc, ld, lf, lg, lh])
                    refine tu 27 rfl hHeld ?_
                    (try simp only [la, lb, lc, ld, lf, lg, lh])
                    refine tu 28 rfl hHeld ?_
                    (try simp only [la, lb, lc, ld, lf, lg, lh])
                    refine tu 29 rfl hHeld ?_
                    (try simp only [la, lb, lc, ld, lf, lg, lh])
                    refine tu 30 rfl hHeld ?_
                    (try simp only [la, lb, lc, ld, lf, lg, lh])
                    refine tk 31 ?_ rfl hHeld ?_ ?_; rotate_left
                    · intro w hSw; (try dsimp only at hSw); go_simp; try (with_reducible rfl)
                    (try simp only [la, lb, lc, ld, lf, lg, lh])
                    refine tk 32 ?_ rfl hHeld ?_ ?_; rotate_left
                    · intro w hSw; (try dsimp only at hSw); go_simp; try (with_reducible rfl)
                    (try simp only [la, lb, lc, ld, lf, lg, lh])
                    refine wpAnyL_done (by kernel_rfl) ?_ _
                    have R24d := B24.out.below Bd.out
                    have R22d := RBox.below hri.out (bt HBc.out Bd.out)
                    have HBd := Lib.hid (bt HBc.out Bd.out)
                    obtain ⟨f1, f2, f3, f4, f5, f6, f7, hg4, hv4⟩ := R24d
                    have R22h := Lib.hid R22d
                    obtain ⟨e1, e2, e3, e4, e5, e6, e7, hg2, hv2⟩ := R22d
                    obtain ⟨-, zA, -⟩ := own_box (Below.refl _ wd) (size_of_box hg4) hg4
                    obtain ⟨-, zB, fB⟩ := own_box (Below.refl _ wd) (size_of_box hg2) hg2
                    have zA0 := zA 0; have zA1 := zA 1; have zA2 := zA 2; have zB0 := zB 0; have zB1 := zB 1; have zB2 := zB 2; have fB0 := fB 0; have fB1 := fB 1; have fB2 := fB 2
                    have Hv4 := Lib.hid hv4
                    have HbX := Lib.hid (bt hbi.out HBd.out)
                    clear zA zB fB hg4 hg2 hv4 hv2
                    go_wp2_with fail
                    refine ⟨⟨j + 1, by omega, by go_num, Lib.hid (((HbX.out.setCell (p := ⟨X1.heap.size, 0, none⟩) (Nat.le_refl _) _).setCell (p := ⟨X1.heap.size, 1, none⟩) (Nat.le_refl _) _).setCell (p := ⟨X1.heap.size, 2, none⟩) (Nat.le_refl _) _), Lib.hid ?_⟩, by simp [intOf]; omega⟩
                    rw [Hsum.out]
                    exact RBox.put R22h.out Hv4.out
                  | false =>
                    cases b2_ with
                    | true =>
                      have h0 := Hz.out (hm2 rfl)
                      subst h0
                      clear hm1 hm2
                      refine wp_region_L (S := (fun W : World => W.cell? ⟨wv.heap.size, 0, none⟩ = some (.slice (some ⟨hb_, hoff, none⟩) xn0 xt0) ∧ W.cell? ⟨hb_, hoff + j * 3, none⟩ = some (.bool false) ∧ W.cell? ⟨hb_, hoff + j * 3 + 1, none⟩ = some (.slice u3 0 m3) ∧ W.cell? ⟨hb_, hoff + j * 3 + 2, none⟩ = some (.slice u4 l4 m4))) (L := []) (by kernel_rfl) (HS25.out _ (Below.drew (Below.refl _ wc))) (fun hHeld => ?_)
                      refine tk 0 ?_ rfl hHeld ?_ ?_; rotate_left
                      · intro w hSw; (try dsimp only at hSw); go_simp; try (with_reducible rfl)
                      (try simp only [la, lb, lc, ld, lf, lg, lh])
                      refine tk 1 ?_ rfl hHeld ?_ ?_; rotate_left
                      · intro w hSw; (try dsimp only at hSw); go_simp; try (with_reducible rfl)
                      (try simp only [la, lb, lc, ld, lf, lg, lh])
                      refine tk 2 ?_ rfl hHeld ?_ ?_; rotate_left
                      · intro w hSw; (try dsimp only at hSw); go_simp; try (with_reducible rfl)
                      (try simp only [la, lb, lc, ld, lf, lg, lh])
                      refine tk 3 ?_ rfl hHeld ?_ ?_; rotate_left
                      · intro w hSw; (try dsimp only at hSw); go_simp; try (with_reducible rfl)
                      (try simp only [la, lb, lc, ld, lf, lg, lh])
                      refine tk 4 ?_ rfl hHeld ?_ ?_; rotate_left
                      · intro w hSw; (try dsimp only at hSw); go_simp; try (with_reducible rfl)
                      (try simp only [la, lb, lc, ld, lf, lg, lh])
                      refine wpAnyL_one (i := 5) (by kernel_rfl) rfl (fun K hK => ?_)
                      (go_simp; go_at_call 23; refine (HInE.out _ (Below.drew (Below.refl _ wc))).mono ?_; rintro e wa ⟨rfl, hba⟩; rw [hb1]; have Ba := Lib.hid (bt (Below.drew (Below.refl _ wc)) hba); clear hba)
                      refine hK.out _ _ (HS25.out _ Ba.out) (fun hHeld => ?_)
                      clear hK K
                      (try simp only [la, lb, lc, ld, lf, lg, lh])
                      refine tk 6 ?_ rfl hHeld ?_ ?_; rotate_left
                      · intro w hSw; (try dsimp only at hSw); go_simp; try (with_reducible rfl)
                      (try simp only [la, lb, lc, ld, lf, lg, lh])
                      refine tu 7 rfl hHeld ?_
                      (try simp only [la, lb, lc, ld, lf, lg, lh])
                      refine tu 8 rfl hHeld ?_
                      (try simp only [la, lb, lc, ld, lf, lg, lh])
                      refine tu 9 rfl hHeld ?_
                      (try simp only [la, lb, lc, ld, lf, lg, lh])
                      refine tu 10 rfl hHeld ?_
                      (try simp only [la, lb, lc, ld, lf, lg, lh])
                      refine tu 11 rfl hHeld ?_
                      (try simp only [la, lb, lc, ld, lf, lg, lh])
                      refine tu 12 rfl hHeld ?_
                      (try simp only [la, lb, lc, ld, lf, lg, lh])
                      refine tu 13 rfl hHeld ?_
                      (try simp only [la, lb, lc, ld, lf, lg, lh])
                      refine tu 14 rfl hHeld ?_
                      (try simp only [la, lb, lc, ld, lf, lg, lh])
                      refine tu 15 rfl hHeld ?_
                      (try simp only [la, lb, lc, ld, lf, lg, lh])
                      refine tk 16 ?_ rfl hHeld ?_ ?_; rotate_left
                      · intro w hSw; (try dsimp only at hSw); go_simp; try (with_reducible rfl)
                      (try simp only [la, lb, lc, ld, lf, lg, lh])
                      refine tk 17 ?_ rfl hHeld ?_ ?_; rotate_left
                      · intro w hSw; (try dsimp only at hSw); go_simp; try (with_reducible rfl)
                      (try simp only [la, lb, lc, ld, lf, lg, lh])
                      refine tk 18 ?_ rfl hHeld ?_ ?_; rotate_left
                      · intro w hSw; (try dsimp only at hSw); go_simp; try (with_reducible rfl)
                      (try simp only [la, lb, lc, ld, lf, lg, lh])
                      refine tk 19 ?_ rfl hHeld ?_ ?_; rotate_left
                      · intro w hSw; (try dsimp only at hSw); go_simp; try (with_reducible rfl)
                      (try simp only [la, lb, lc, ld, lf, lg, lh])
                      refine tk 20 ?_ rfl hHeld ?_ ?_; rotate_left
                      · intro w hSw; (try dsimp only at hSw); go_simp; try (with_reducible rfl)
                      (try simp only [la, lb, lc, ld, lf, lg, lh])
                      refine wpAnyL_one (i := 21) (by kernel_rfl) rfl (fun K hK => ?_)
                      (go_simp; go_at_call 23; refine (HInO.out _ Ba.out).mono ?_; rintro e wd ⟨rfl, hbd⟩; rw [hb2]; have Bd := Lib.hid (bt Ba.out hbd); clear hbd)
                      refine hK.out _ _ (HS25.out _ Bd.out) (fun hHeld => ?_)
                      clear hK K
                      (try simp only [la, lb, lc, ld, lf, lg, lh])
                      refine tk 22 ?_ rfl hHeld ?_ ?_; rotate_left
                      · intro w hSw; (try dsimp only at hSw); go_simp; try (with_reducible rfl)
                      (try simp only [la, lb, lc, ld, lf, lg, lh])
                      refine tk 23 ?_ rfl hHeld ?_ ?_; rotate_left
                      · intro w hSw; (try dsimp only at hSw); go_simp; try (with_reducible rfl)
                      (try simp only [la, lb, lc, ld, lf, lg, lh])
                      refine tk 24 ?_ rfl hHeld ?_ ?_; rotate_left
                      · intro w hSw; (try dsimp only at hSw); go_simp; try (with_reducible rfl)
                      (try simp only [la, lb, lc, ld, lf, lg, lh])
                      refine tk 25 ?_ rfl hHeld ?_ ?_; rotate_left
                      · intro w hSw; (try dsimp only at hSw); go_simp; try (with_reducible rfl)
                      (try simp only [la, lb, lc, ld, lf, lg, lh])
                      refine tk 26 ?_ rfl hHeld ?_ ?_; rotate_left
                      · intro w hSw; (try dsimp only at hSw); go_simp; try (with_reducible rfl)
                      (try simp only [la, lb, lc, ld, lf, lg, lh])
                      refine tk 27 ?_ rfl hHeld ?_ ?_; rotate_left
                      · intro w hSw; (try dsimp only at hSw); go_simp; try (with_reducible rfl)
                      (try simp only [la, lb, lc, ld, lf, lg, lh])
                      refine tk 28 ?_ rfl hHeld ?_ ?_; rotate_left
                      · intro w hSw; (try dsimp only at hSw); go_simp; try (with_reducible rfl)
                      (try simp only [la, lb, lc, ld, lf, lg, lh])
                      refine tk 29 ?_ rfl hHeld ?_ ?_; rotate_left
                      · intro w hSw; (try dsimp only at hSw); go_simp; try (with_reducible rfl)
                      (try simp only [la, lb, lc, ld, lf, lg, lh])
                      refine tk 30 ?_ rfl hHeld ?_ ?_; rotate_left
                      · intro w hSw; (try dsimp only at hSw); go_simp; try (with_reducible rfl)
                      (try simp only [la, lb, lc, ld, lf, lg, lh])
                      refine tk 31 ?_ rfl hHeld ?_ ?_; rotate_left
                      · intro w hSw; (try dsimp only at hSw); go_simp; try (with_reducible rfl)
                      (try simp only [la, lb, lc, ld, lf, lg, lh])
                      refine tk 32 ?_ rfl hHeld ?_ ?_; rotate_left
                      · intro w hSw; (try dsimp only at hSw); go_simp; try (with_reducible rfl)
                      (try simp only [la, lb, lc, ld, lf, lg, lh])
                      refine wpAnyL_done (by kernel_rfl) ?_ _
                      have R24d := B24.out.below Bd.out
                      have R22d := RBox.below hri.out (bt HBc.out Bd.out)
                      have HBd := Lib.hid (bt HBc.out Bd.out)
                      obtain ⟨f1, f2, f3, f4, f5, f6, f7, hg4, hv4⟩ := R24d
                      have R22h := Lib.hid R22d
                      obtain ⟨e1, e2, e3, e4, e5, e6, e7, hg2, hv2⟩ := R22d
                      obtain ⟨-, zA, -⟩ := own_box (Below.refl _ wd) (size_of_box hg4) hg4
                      obtain ⟨-, zB, fB⟩ := own_box (Below.refl _ wd) (size_of_box hg2) hg2
                      have zA0 := zA 0; have zA1 := zA 1; have zA2 := zA 2; have zB0 := zB 0; have zB1 := zB 1; have zB2 := zB 2; have fB0 := fB 0; have fB1 := fB 1; have fB2 := fB 2
                      have Hv4 := Lib.hid hv4
                      have HbX := Lib.hid (bt hbi.out HBd.out)
                      clear zA zB fB hg4 hg2 hv4 hv2
                      go_wp2_with fail
                      refine ⟨⟨j + 1, by omega, by go_num, Lib.hid (((HbX.out.setCell (p := ⟨X1.heap.size, 0, none⟩) (Nat.le_refl _) _).setCell (p := ⟨X1.heap.size, 1, none⟩) (Nat.le_refl _) _).setCell (p := ⟨X1.heap.size, 2, none⟩) (Nat.le_refl _) _), Lib.hid ?_⟩, by simp [intOf]; omega⟩
                      rw [Hsum.out]
                      exact RBox.put R22h.out Hv4.out
                    | false =>
                      clear hm1 hm2
                      refine wp_region_L (S := (fun W : World => W.cell? ⟨wv.heap.size, 0, none⟩ = some (.slice (some ⟨hb_, hoff, none⟩) xn0 xt0) ∧ W.cell? ⟨hb_, hoff + j * 3, none⟩ = some (.bool false) ∧ W.cell? ⟨hb_, hoff + j * 3 + 1, none⟩ = some (.slice u3 l3 m3) ∧ W.cell? ⟨hb_, hoff + j * 3 + 2, none⟩ = some (.slice u4 l4 m4))) (L := []) (by kernel_rfl) (HS25.out _ (Below.drew (Below.refl _ wc))) (fun hHeld => ?_)
                      refine tk 0 ?_ rfl hHeld ?_ ?_; rotate_left
                      · intro w hSw; (try dsimp only at hSw); go_simp; try (with_reducible rfl)
                      (try simp only [la, lb, lc, ld, lf, lg, lh])
                      refine tk 1 ?_ rfl hHeld ?_ ?_; rotate_left
                      · intro w hSw; (try dsimp only at hSw); go_simp; try (with_reducible rfl)
                      (try simp only [la, lb, lc, ld, lf, lg, lh])
                      refine tk 2 ?_ rfl hHeld ?_ ?_; rotate_left
                      · intro w hSw; (try dsimp only at hSw); go_simp; try (with_reducible rfl)
                      (try simp only [la, lb, lc, ld, lf, lg, lh])
                      refine tk 3 ?_ rfl hHeld ?_ ?_; rotate_left
                      · intro w hSw; (try dsimp only at hSw); go_simp; try (with_reducible rfl)
                      (try simp only [la, lb, lc, ld, lf, lg, lh])
                      refine tk 4 ?_ rfl hHeld ?_ ?_; rotate_left
                      · intro w hSw; (try dsimp only at hSw); go_simp; try (with_reducible rfl)
                      (try simp only [la, lb, lc, ld, lf, lg, lh])
                      refine wpAnyL_one (i := 5) (by kernel_rfl) rfl (fun K hK => ?_)
                      (go_simp; go_at_call 23; refine (HInE.out _ (Below.drew (Below.refl _ wc))).mono ?_; rintro e wa ⟨rfl, hba⟩; rw [hb1]; have Ba := Lib.hid (bt (Below.drew (Below.refl _ wc)) hba); clear hba)
                      refine hK.out _ _ (HS25.out _ Ba.out) (fun hHeld => ?_)
                      clear hK K
                      (try simp only [la, lb, lc, ld, lf, lg, lh])
                      refine tk 6 ?_ rfl hHeld ?_ ?_; rotate_left
                      · intro w hSw; (try dsimp only at hSw); go_simp; try (with_reducible rfl)
                      (try simp only [la, lb, lc, ld, lf, lg, lh])
                      refine tu 7 rfl hHeld ?_
                      (try simp only [la, lb, lc, ld, lf, lg, lh])
                      refine tu 8 rfl hHeld ?_
                      (try simp only [la, lb, lc, ld, lf, lg, lh])
                      refine tu 9 rfl hHeld ?_
                      (try simp only [la, lb, lc, ld, lf, lg, lh])
                      refine tu 10 rfl hHeld ?_
                      (try simp only [la, lb, lc, ld, lf, lg, lh])
                      refine tu 11 rfl hHeld ?_
                      (try simp only [la, lb, lc, ld, lf, lg, lh])
                      refine tu 12 rfl hHeld ?_
                      (try simp only [la, lb, lc, ld, lf, lg, lh])
                      refine tu 13 rfl hHeld ?_
                      (try simp only [la, lb, lc, ld, lf, lg, lh])
                      refine tu 14 rfl hHeld ?_
                      (try simp only [la, lb, lc, ld, lf, lg, lh])
                      refine tu 15 rfl hHeld ?_
                      (try simp only [la, lb, lc, ld, lf, lg, lh])
                      refine tk 16 ?_ rfl hHeld ?_ ?_; rotate_left
                      · intro w hSw; (try dsimp only at hSw); go_simp; try (with_reducible rfl)
                      (try simp only [la, lb, lc, ld, lf, lg, lh])
                      refine tk 17 ?_ rfl hHeld ?_ ?_; rotate_left
                      · intro w hSw; (try dsimp only at hSw); go_simp; try (with_reducible rfl)
                      (try simp only [la, lb, lc, ld, lf, lg, lh])
                      refine tk 18 ?_ rfl hHeld ?_ ?_; rotate_left
                      · intro w hSw; (try dsimp only at hSw); go_simp; try (with_reducible rfl)
                      (try simp only [la, lb, lc, ld, lf, lg, lh])
                      refine tk 19 ?_ rfl hHeld ?_ ?_; rotate_left
                      · intro w hSw; (try dsimp only at hSw); go_simp; try (with_reducible rfl)
                      (try simp only [la, lb, lc, ld, lf, lg, lh])
                      refine tk 20 ?_ rfl hHeld ?_ ?_; rotate_left
                      · intro w hSw; (try dsimp only at hSw); go_simp; try (with_reducible rfl)
                      (try simp only [la, lb, lc, ld, lf, lg, lh])
                      refine wpAnyL_one (i := 21) (by kernel_rfl) rfl (fun K hK => ?_)
                      (go_simp; go_at_call 23; refine (HInO.out _ Ba.out).mono ?_; rintro e wd ⟨rfl, hbd⟩; rw [hb2]; have Bd := Lib.hid (bt Ba.out hbd); clear hbd)
                      refine hK.out _ _ (HS25.out _ Bd.out) (fun hHeld => ?_)
                      clear hK K
                      (try simp only [la, lb, lc, ld, lf, lg, lh])
                      refine tk 22 ?_ rfl hHeld ?_ ?_; rotate_left
                      · intro w hSw; (try dsimp only at hSw); go_simp; try (with_reducible rfl)
                      (try simp only [la, lb, lc, ld, lf, lg, lh])
                      refine tu 23 rfl hHeld ?_
                      (try simp only [la, lb, lc, ld, lf, lg, lh])
                      refine tu 24 rfl hHeld ?_
                      (try simp only [la, lb, lc, ld, lf, lg, lh])
                      refine tu 25 rfl hHeld ?_
                      (try simp only [la, lb, lc, ld, lf, lg, lh])
                      refine tu 26 rfl hHeld ?_
                      (try simp only [la, lb, lc, ld, lf, lg, lh])
                      refine tu 27 rfl hHeld ?_
                      (try simp only [la, lb, lc, ld, lf, lg, lh])
                      refine tu 28 rfl hHeld ?_
                      (try simp only [la, lb, lc, ld, lf, lg, lh])
                      refine tu 29 rfl hHeld ?_
                      (try simp only [la, lb, lc, ld, lf, lg, lh])
                      refine tu 30 rfl hHeld ?_
                      (try simp only [la, lb, lc, ld, lf, lg, lh])
                      refine tk 31 ?_ rfl hHeld ?_ ?_; rotate_left
                      · intro w hSw; (try dsimp only at hSw); go_simp; try (with_reducible rfl)
                      (try simp only [la, lb, lc, ld, lf, lg, lh])
                      refine tk 32 ?_ rfl hHeld ?_ ?_; rotate_left
                      · intro w hSw; (try dsimp only at hSw); go_simp; try (with_reducible rfl)
                      (try simp only [la, lb, lc, ld, lf, lg, lh])
                      refine wpAnyL_done (by kernel_rfl) ?_ _
                      have R24d := B24.out.below Bd.out
                      have R22d := RBox.below hri.out (bt HBc.out Bd.out)
                      have HBd := Lib.hid (bt HBc.out Bd.out)
                      obtain ⟨f1, f2, f3, f4, f5, f6, f7, hg4, hv4⟩ := R24d
                      have R22h := Lib.hid R22d
                      obtain ⟨e1, e2, e3, e4, e5, e6, e7, hg2, hv2⟩ := R22d
                      obtain ⟨-, zA, -⟩ := own_box (Below.refl _ wd) (size_of_box hg4) hg4
                      obtain ⟨-, zB, fB⟩ := own_box (Below.refl _ wd) (size_of_box hg2) hg2
                      have zA0 := zA 0; have zA1 := zA 1; have zA2 := zA 2; have zB0 := zB 0; have zB1 := zB 1; have zB2 := zB 2; have fB0 := fB 0; have fB1 := fB 1; have fB2 := fB 2
                      have Hv4 := Lib.hid hv4
                      have HbX := Lib.hid (bt hbi.out HBd.out)
                      clear zA zB fB hg4 hg2 hv4 hv2
                      go_wp2_with fail
                      refine ⟨⟨j + 1, by omega, by go_num, Lib.hid (((HbX.out.setCell (p := ⟨X1.heap.size, 0, none⟩) (Nat.le_refl _) _).setCell (p := ⟨X1.heap.size, 1, none⟩) (Nat.le_refl _) _).setCell (p := ⟨X1.heap.size, 2, none⟩) (Nat.le_refl _) _), Lib.hid ?_⟩, by simp [intOf]; omega⟩
                      rw [Hsum.out]
                      exact RBox.put R22h.out Hv4.out
              · have hjx : H.take j = H := List.take_of_length_le (by rw [Y3.out]; omega)
                rw [hjx, show ((ln : Int) + H.sum) = V * 1000000000 by have := Y6.out; omega] at hri
                have hl1 := Hl1.out
                have hlt3 := Hlast.out
                obtain ⟨bb, u1, l1, m1, u2, l2, m2, hg22, hv22⟩ := hri.out
                have HVV := Lib.hid hv22
                have S1 := Lib.hid (SumR.below hr.out (bt BX1.out hbi.out))
                obtain ⟨t1, t2, t3, t4, t5, t6, t7, hg15, hv15⟩ := R7.out.below hb7i.out
                obtain ⟨f1, f2, f3, f4, f5, f6, f7, hg19, hv19⟩ := S1.out.l
                have hcm1 := fun (W : World) (hW : Below wr.heap.size wr W) => r4CmpB _ _ _ _ ln pn W ((V1.out.same (.of_below (bt hb7i.out hW)))) (hv19.same (.of_below hW)) (by omega) (by omega)
                have hcm2 := fun (W : World) (hW : Below wr.heap.size wr W) => r4CmpB _ _ _ _ ln 10000000 W ((V1.out.same (.of_below (bt hb7i.out hW)))) (hv15.same (.of_below hW)) (by omega) (by omega)
                have hc1 : decide (cmpN ln pn < 0) = false := decide_eq_false (cmpN_ge (by omega))
                have hc2 : b = true → (decide (0 ≤ cmpN ln 10000000)) = false := fun e => decide_eq_false (by have := cmpN_lt (Hfull.out e); omega)
                obtain ⟨x1, hx1⟩ : ∃ x, cmpN ln pn = x := ⟨_, rfl⟩
                obtain ⟨x2, hx2⟩ : ∃ x, cmpN ln 10000000 = x := ⟨_, rfl⟩
                simp only [hx1] at hcm1 hc1
                simp only [hx2] at hcm2 hc2
                have HC1 := Lib.hid hcm1; have HC2 := Lib.hid hcm2; have gi_ := Lib.hid gi; have zl_ := Lib.hid zl; have G15 := Lib.hid hg15; have G22 := Lib.hid hg22
                have Hw79 : Hid (w7.heap.size + 1 ≤ wv.heap.size) := Lib.hid (by
                  obtain ⟨_, _, _, _, _, _, _, hh, -⟩ := hr.out.l
                  exact size_of_box hh)
                obtain ⟨y0, y1, y2, -⟩ := box3 hg19 (Below.refl _ wr)
                clear hg22 hv22 hv15 hv19 hcm1 hcm2 hx1 hx2 gi hg15 hl1 hlt3 hjx
                go_upto_region 29 with (first | (go_at_call 29; refine (HC1.out _ (Below.refl _ wr)).mono ?_; rintro e wl ⟨rfl, hbl⟩; have Bl := Lib.hid hbl; clear hbl))
                clear z0 z1 z2 z3 z4 z5 zl y0 y1 y2 hg19
                obtain ⟨z0, z1, z2, z3, z4, z5, zl⟩ := KC.out wl ((Bl.out.block _ zl_.out).trans gi_.out)
                obtain ⟨y0, y1, y2, -⟩ := box3 G15.out Bl.out
                go_upto_region 30 with (first | (go_at_call 29; refine (HC2.out _ Bl.out).mono ?_; rintro e wm ⟨rfl, hbm⟩; have Bm := Lib.hid (bt Bl.out hbm); clear hbm))
                clear z0 z1 z2 z3 z4 z5 zl y0 y1 y2
                have hS30 : ∀ W : World, Below wm.heap.size wm W → (fun W : World => W.cell? ⟨X1.heap.size, 0, none⟩ = some (.bool bb) ∧ W.cell? ⟨X1.heap.size, 1, none⟩ = some (.slice u1 l1 m1) ∧ W.cell? ⟨X1.heap.size, 2, none⟩ = some (.slice u2 l2 m2)) W := fun W hW => by
                  obtain ⟨q0, q1, q2, -⟩ := box3 G22.out (bt Bm.out hW)
                  exact ⟨q0, q1, q2⟩
                have HS30 := Lib.hid hS30
                have HVV := Lib.hid (HVV.out.same (.of_below Bm.out))
                clear hS30
                cases b with
                | true =>
                  have hc3 := hc2 rfl
                  clear hc2
                  refine wp_region_L (S := (fun W : World => W.cell? ⟨X1.heap.size, 0, none⟩ = some (.bool bb) ∧ W.cell? ⟨X1.heap.size, 1, none⟩ = some (.slice u1 l1 m1) ∧ W.cell? ⟨X1.heap.size, 2, none⟩ = some (.slice u2 l2 m2))) (L := []) (by kernel_rfl) (HS30.out _ (Below.drew (Below.refl _ wm))) (fun hHeld => ?_)
                  refine tk 0 ?_ rfl hHeld ?_ ?_; rotate_left
                  · intro w hSw; (try dsimp only at hSw); go_simp; try (with_reducible rfl)
                  (try simp only [la, lb, lc, ld, lf, lg, lh])
                  refine tk 1 ?_ rfl hHeld ?_ ?_; rotate_left
                  · intro w hSw; (try dsimp only at hSw); go_simp; try (with_reducible rfl)
                  (try simp only [la, lb, lc, ld, lf, lg, lh])
                  refine tk 2 ?_ rfl hHeld ?_ ?_; rotate_left
                  · intro w hSw; (try dsimp only at hSw); go_simp; try (with_reducible rfl)
                  (try simp only [la, lb, lc, ld, lf, lg, lh])
                  refine tk 3 ?_ rfl hHeld ?_ ?_; rotate_left
                  · intro w hSw; (try dsimp only at hSw); go_simp; try (with_reducible rfl)
                  (try simp only [la, lb, lc, ld, lf, lg, lh])
                  refine tk 4 ?_ rfl hHeld ?_ ?_; rotate_left
                  · intro w hSw; (try dsimp only at hSw); go_simp; try (with_reducible rfl)
                  (try simp only [la, lb, lc, ld, lf, lg, lh])
                  refine tk 5 ?_ rfl hHeld ?_ ?_; rotate_left
                  · intro w hSw; (try dsimp only at hSw); go_simp; try (with_reducible rfl)
                  (try simp only [la, lb, lc, ld, lf, lg, lh])
                  refine tk 6 ?_ rfl hHeld ?_ ?_; rotate_left
                  · intro w hSw; (try dsimp only at hSw); go_simp; try (with_reducible rfl)
                  (try simp only [la, lb, lc, ld, lf, lg, lh])
                  refine tk 7 ?_ rfl hHeld ?_ ?_; rotate_left
                  · intro w hSw; (try dsimp only at hSw); go_simp; try (with_reducible rfl)
                  (try simp only [la, lb, lc, ld, lf, lg, lh])
                  refine tk 8 ?_ rfl hHeld ?_ ?_; rotate_left
                  · intro w hSw; (try dsimp only at hSw); go_simp; try (with_reducible rfl)
                  (try simp only [la, lb, lc, ld, lf, lg, lh])
                  refine tk 9 ?_ rfl hHeld ?_ ?_; rotate_left
                  · intro w hSw; (try dsimp only at hSw); go_simp; try (with_reducible rfl)
                  (try simp only [la, lb, lc, ld, lf, lg, lh])
                  refine tk 10 ?_ rfl hHeld ?_ ?_; rotate_left
                  · intro w hSw; (try dsimp only at hSw); go_simp; try (with_reducible rfl)
                  (try simp only [la, lb, lc, ld, lf, lg, lh])
                  refine tk 11 ?_ rfl hHeld ?_ ?_; rotate_left
                  · intro w hSw; (try dsimp only at hSw); go_simp; try (with_reducible rfl)
                  (try simp only [la, lb, lc, ld, lf, lg, lh])
                  refine tk 12 ?_ rfl hHeld ?_ ?_; rotate_left
                  · intro w hSw; (try dsimp only at hSw); go_simp; try (with_reducible rfl)
                  (try simp only [la, lb, lc, ld, lf, lg, lh])
                  refine tk 13 ?_ rfl hHeld ?_ ?_; rotate_left
                  · intro w hSw; (try dsimp only at hSw); go_simp; try (with_reducible rfl)
                  (try simp only [la, lb, lc, ld, lf, lg, lh])
                  refine tk 14 ?_ rfl hHeld ?_ ?_; rotate_left
                  · intro w hSw; (try dsimp only at hSw); go_simp; try (with_reducible rfl)
                  (try simp only [la, lb, lc, ld, lf, lg, lh])
                  refine tk 15 ?_ rfl hHeld ?_ ?_; rotate_left
                  · intro w hSw; (try dsimp only at hSw); go_simp; try (with_reducible rfl)
                  (try simp only [la, lb, lc, ld, lf, lg, lh])
                  refine tk 16 ?_ rfl hHeld ?_ ?_; rotate_left
                  · intro w hSw; (try dsimp only at hSw); go_simp; try (with_reducible rfl)
                  (try simp only [la, lb, lc, ld, lf, lg, lh])
                  refine tk 17 ?_ rfl hHeld ?_ ?_; rotate_left
                  · intro w hSw; (try dsimp only at hSw); go_simp; try (with_reducible rfl)
                  (try simp only [la, lb, lc, ld, lf, lg, lh])
                  refine tk 18 ?_ rfl hHeld ?_ ?_; rotate_left
                  · intro w hSw; (try dsimp only at hSw); go_simp; try (with_reducible rfl)
                  (try simp only [la, lb, lc, ld, lf, lg, lh])
                  refine tk 19 ?_ rfl hHeld ?_ ?_; rotate_left
                  · intro w hSw; (try dsimp only at hSw); go_simp; try (with_reducible rfl)
                  (try simp only [la, lb, lc, ld, lf, lg, lh])
                  refine wpAnyL_one (i := 20) (by kernel_rfl) rfl (fun K hK => ?_)
                  (go_simp; go_at_call 26; refine (HWV.out _).mono ?_; rintro e wn ⟨ab, cb, bb', eb, rfl, kb, hbb⟩; have Bn := Lib.hid (bt (Below.drew (Below.refl _ wm)) hbb); have Kb := Lib.hid kb; clear kb hbb)
                  refine hK.out _ _ (HS30.out _ Bn.out) (fun hHeld => ?_)
                  clear hK K
                  (try simp only [la, lb, lc, ld, lf, lg, lh])
                  refine wpAnyL_one (i := 21) (by kernel_rfl) rfl (fun K hK => ?_)
                  (go_simp; go_at_call 28; refine (r04Same_eq Any Any _ _ _ _ (HVV.out.same (.of_below Bn.out)) Kb.out).mono ?_; rintro e wo ⟨rfl, hbe⟩; have Bo := Lib.hid (bt Bn.out hbe); clear hbe)
                  refine hK.out _ _ (HS30.out _ Bo.out) (fun hHeld => ?_)
                  clear hK K
                  (try simp only [la, lb, lc, ld, lf, lg, lh])
                  refine tk 22 ?_ rfl hHeld ?_ ?_; rotate_left
                  · intro w hSw; (try dsimp only at hSw); go_simp; try (with_reducible rfl)
                  (try simp only [la, lb, lc, ld, lf, lg, lh])
                  refine tk 23 ?_ rfl hHeld ?_ ?_; rotate_left
                  · intro w hSw; (try dsimp only at hSw); go_simp; try (with_reducible rfl)
                  (try simp only [la, lb, lc, ld, lf, lg, lh])
                  refine wpAnyL_done (by kernel_rfl) ?_ _
                  have hBo := bt Bm.out Bo.out
                  have S3 := SumR.below S1.out hBo
                  have go_ := (hBo.block _ zl_.out).trans gi_.out
                  obtain ⟨z0, z1, z2, z3, z4, z5, zl⟩ := KC.out wo go_
                  obtain ⟨f1, f2, f3, f4, f5, f6, f7, hg9, hv9⟩ := S3.l
                  obtain ⟨-, zB, fB⟩ := own_box (Below.refl _ wo) (size_of_box hg9) hg9
                  have zB0 := zB 0; have zB1 := zB 1; have zB2 := zB 2; have fB0 := fB 0; have fB1 := fB 1; have fB2 := fB 2
                  have HS3 := Lib.hid S3; have Go_ := Lib.hid go_
                  clear zB fB hg9 hv9 S3 go_ hBo
                  go_upto_region 33 with fail
                  obtain ⟨Z, hZ⟩ : ∃ q, q = (((wo.setCell ⟨w7.heap.size, 0, none⟩ (.bool false)).setCell ⟨w7.heap.size, 1, none⟩ (.slice xs2 xn2 xt2)).setCell ⟨w7.heap.size, 2, none⟩ (.slice xs3 xn3 xt3)) := ⟨_, rfl⟩
                  rw [← hZ]
                  have SZ0 := SumR.put HS3.out (V1.out.same (.of_below HS3.out.b))
                  rw [← hZ] at SZ0
                  have SZ := Lib.hid SZ0
                  clear SZ0
                  have GZ : Hid (Z.heap[wv.heap.size]? = some (.cells #[.slice xs0 xn0 xt0, .bool false, .slice xs2 xn2 xt2, .slice xs3 xn3 xt3, .slice xs4 xn4 xt4, .slice xs5 xn5 xt5] 53 (0, 0))) := Lib.hid (by
                    have hs : Same (fun b => b ≠ w7.heap.size) wo Z := by rw [hZ]; exact (((Same.refl _ _).setCell (p := ⟨w7.heap.size, 0, none⟩) (by simp) _).setCell (p := ⟨w7.heap.size, 1, none⟩) (by simp) _).setCell (p := ⟨w7.heap.size, 2, none⟩) (by simp) _
                    have hn9 : wv.heap.size ≠ w7.heap.size := by have := Hw79.out; omega
                    exact (hs _ zl hn9).trans Go_.out)
                  clear z0 z1 z2 z3 z4 z5 zl zB0 zB1 zB2 fB0 fB1 fB2 hZ
                  obtain ⟨z0, z1, z2, z3, z4, z5, zl⟩ := KC.out Z GZ.out
                  have HV4 : Hid (RInts (fun b => b < w7.heap.size) Z (.slice xs4 xn4 xt4) r.elected) := Lib.hid (RInts.same (.of_below SZ.out.b) V4.out)
                  have HLE : Hid (E.length ≤ 1000000 ∧ r.elected.length ≤ 1000000 ∧ O.length ≤ 1000000 ∧ r.out.length ≤ 1000000) := Lib.hid (by have := Hel2.out; have := Hne.out; have := Hol2.out; have := Hno.out; omega)
                  have sa0 := Lib.hid True.intro
                  go_wp2_with (first
                    | (have := sa1; at_builtin; clear sa1; go_must (refine wpList_appT (zs := r.out) w8 Tryz.infoInt rfl rfl Tryz.underlying25 S8.out.o S8.out.a S8.out.ap.symm rfl HV5.out rfl HLE.out.2.2.1 HLE.out.2.2.2 S8.out.b ?_); intro a9 n9 c9 w9 ho9 hy9 ha9 hg9 hat9 hb9; have S9 := Lib.hid (SumR.growB S8.out ho9 hy9 ha9 hg9 hb9); clear ho9 hy9 ha9 hg9 hat9 hb9 this)
                    | (have := sa0; at_builtin; clear sa0; go_must (refine wpList_appT (zs := r.elected) Z Tryz.infoInt rfl rfl Tryz.underlying25 SZ.out.a SZ.out.o SZ.out.ap rfl HV4.out rfl HLE.out.1 HLE.out.2.1 SZ.out.b ?_); intro a8 n8 c8 w8 ho8 hy8 ha8 hg8 hat8 hb8; have S8 := Lib.hid (SumR.growA SZ.out ho8 hy8 ha8 hg8 hb8); have HV5 : Hid (RInts (fun b => b < w7.heap.size) w8 (.slice xs5 xn5 xt5) r.out) := Lib.hid (RInts.same (.of_below S8.out.b) V5.out); have G8 := Lib.hid ((hg8.block _ zl (fun e => own_not SZ.out.a GZ.out e.symm)).trans GZ.out); clear z0 z1 z2 z3 z4 z5 zl; obtain ⟨z0, z1, z2, z3, z4, z5, zl⟩ := KC.out w8 G8.out; clear ho8 hy8 ha8 hg8 hat8 hb8 this; have sa1 := Lib.hid True.intro))
                  exact ⟨⟨k + 1, by omega, by go_num, Lib.hid (by rw [Hst1.out, Hst2.out, Hlast.out.2.2]; exact S9.out)⟩, by simp [intOf]; omega⟩
                | false =>
                  clear hc2
                  refine wp_region_L (S := (fun W : World => W.cell? ⟨X1.heap.size, 0, none⟩ = some (.bool bb) ∧ W.cell? ⟨X1.heap.size, 1, none⟩ = some (.slice u1 l1 m1) ∧ W.cell? ⟨X1.heap.size, 2, none⟩ = some (.slice u2 l2 m2))) (L := []) (by kernel_rfl) (HS30.out _ (Below.drew (Below.refl _ wm))) (fun hHeld => ?_)
                  refine tk 0 ?_ rfl hHeld ?_ ?_; rotate_left
                  · intro w hSw; (try dsimp only at hSw); go_simp; try (with_reducible rfl)
                  (try simp only [la, lb, lc, ld, lf, lg, lh])
                  refine tk 1 ?_ rfl hHeld ?_ ?_; rotate_left
                  · intro w hSw; (try dsimp only at hSw); go_simp; try (with_reducible rfl)
                  (try simp only [la, lb, lc, ld, lf, lg, lh])
                  refine tk 2 ?_ rfl hHeld ?_ ?_; rotate_left
                  · intro w hSw; (try dsimp only at hSw); go_simp; try (with_reducible rfl)
                  (try simp only [la, lb, lc, ld, lf, lg, lh])
                  refine tk 3 ?_ rfl hHeld ?_ ?_; rotate_left
                  · intro w hSw; (try dsimp only at hSw); go_simp; try (with_reducible rfl)
                  (try simp only [la, lb, lc, ld, lf, lg, lh])
                  refine tk 4 ?_ rfl hHeld ?_ ?_; rotate_left
                  · intro w hSw; (try dsimp only at hSw); go_simp; try (with_reducible rfl)
                  (try simp only [la, lb, lc, ld, lf, lg, lh])
                  refine tk 5 ?_ rfl hHeld ?_ ?_; rotate_left
                  · intro w hSw; (try dsimp only at hSw); go_simp; try (with_reducible rfl)
                  (try simp only [la, lb, lc, ld, lf, lg, lh])
                  refine tk 6 ?_ rfl hHeld ?_ ?_; rotate_left
                  · intro w hSw; (try dsimp only at hSw); go_simp; try (with_reducible rfl)
                  (try simp only [la, lb, lc, ld, lf, lg, lh])
                  refine tk 7 ?_ rfl hHeld ?_ ?_; rotate_left
                  · intro w hSw; (try dsimp only at hSw); go_simp; try (with_reducible rfl)
                  (try simp only [la, lb, lc, ld, lf, lg, lh])
                  refine tk 8 ?_ rfl hHeld ?_ ?_; rotate_left
                  · intro w hSw; (try dsimp only at hSw); go_simp; try (with_reducible rfl)
                  (try simp only [la, lb, lc, ld, lf, lg, lh])
                  refine tk 9 ?_ rfl hHeld ?_ ?_; rotate_left
                  · intro w hSw; (try dsimp only at hSw); go_simp; try (with_reducible rfl)
                  (try simp only [la, lb, lc, ld, lf, lg, lh])
                  refine tk 10 ?_ rfl hHeld ?_ ?_; rotate_left
                  · intro w hSw; (try dsimp only at hSw); go_simp; try (with_reducible rfl)
                  (try simp only [la, lb, lc, ld, lf, lg, lh])
                  refine tk 11 ?_ rfl hHeld ?_ ?_; rotate_left
                  · intro w hSw; (try dsimp only at hSw); go_simp; try (with_reducible rfl)
                  (try simp only [la, lb, lc, ld, lf, lg, lh])
                  refine tk 12 ?_ rfl hHeld ?_ ?_; rotate_left
                  · intro w hSw; (try dsimp only at hSw); go_simp; try (with_reducible rfl)
                  (try simp only [la, lb, lc, ld, lf, lg, lh])
                  refine tu 13 rfl hHeld ?_
                  (try simp only [la, lb, lc, ld, lf, lg, lh])
                  refine tu 14 rfl hHeld ?_
                  (try simp only [la, lb, lc, ld, lf, lg, lh])
                  refine tk 15 ?_ rfl hHeld ?_ ?_; rotate_left
                  · intro w hSw; (try dsimp only at hSw); go_simp; try (with_reducible rfl)
                  (try simp only [la, lb, lc, ld, lf, lg, lh])
                  refine tk 16 ?_ rfl hHeld ?_ ?_; rotate_left
                  · intro w hSw; (try dsimp only at hSw); go_simp; try (with_reducible rfl)
                  (try simp only [la, lb, lc, ld, lf, lg, lh])
                  refine tk 17 ?_ rfl hHeld ?_ ?_; rotate_left
                  · intro w hSw; (try dsimp only at hSw); go_simp; try (with_reducible rfl)
                  (try simp only [la, lb, lc, ld, lf, lg, lh])
                  refine tk 18 ?_ rfl hHeld ?_ ?_; rotate_left
                  · intro w hSw; (try dsimp only at hSw); go_simp; try (with_reducible rfl)
                  (try simp only [la, lb, lc, ld, lf, lg, lh])
                  refine tk 19 ?_ rfl hHeld ?_ ?_; rotate_left
                  · intro w hSw; (try dsimp only at hSw); go_simp; try (with_reducible rfl)
                  (try simp only [la, lb, lc, ld, lf, lg, lh])
                  refine wpAnyL_one (i := 20) (by kernel_rfl) rfl (fun K hK => ?_)
                  (go_simp; go_at_call 26; refine (HWV.out _).mono ?_; rintro e wn ⟨ab, cb, bb', eb, rfl, kb, hbb⟩; have Bn := Lib.hid (bt (Below.drew (Below.refl _ wm)) hbb); have Kb := Lib.hid kb; clear kb hbb)
                  refine hK.out _ _ (HS30.out _ Bn.out) (fun hHeld => ?_)
                  clear hK K
                  (try simp only [la, lb, lc, ld, lf, lg, lh])
                  refine wpAnyL_one (i := 21) (by kernel_rfl) rfl (fun K hK => ?_)
                  (go_simp; go_at_call 28; refine (r04Same_eq Any Any _ _ _ _ (HVV.out.same (.of_below Bn.out)) Kb.out).mono ?_; rintro e wo ⟨rfl, hbe⟩; have Bo := Lib.hid (bt Bn.out hbe); clear hbe)
                  refine hK.out _ _ (HS30.out _ Bo.out) (fun hHeld => ?_)
                  clear hK K
                  (try simp only [la, lb, lc, ld, lf, lg, lh])
                  refine tk 22 ?_ rfl hHeld ?_ ?_; rotate_left
                  · intro w hSw; (try dsimp only at hSw); go_simp; try (with_reducible rfl)
                  (try simp only [la, lb, lc, ld, lf, lg, lh])
                  refine tk 23 ?_ rfl hHeld ?_ ?_; rotate_left
                  · intro w hSw; (try dsimp only at hSw); go_simp; try (with_reducible rfl)
                  (try simp only [la, lb, lc, ld, lf, lg, lh])
                  refine wpAnyL_done (by kernel_rfl) ?_ _
                  have hBo := bt Bm.out Bo.out
                  have S3 := SumR.below S1.out hBo
                  have go_ := (hBo.block _ zl_.out).trans gi_.out
                  obtain ⟨z0, z1, z2, z3, z4, z5, zl⟩ := KC.out wo go_
                  obtain ⟨f1, f2, f3, f4, f5, f6, f7, hg9, hv9⟩ := S3.l
                  obtain ⟨-, zB, fB⟩ := own_box (Below.refl _ wo) (size_of_box hg9) hg9
                  have zB0 := zB 0; have zB1 := zB 1; have zB2 := zB 2; have fB0 := fB 0; have fB1 := fB 1; have fB2 := fB 2
                  have HS3 := Lib.hid S3; have Go_ := Lib.hid go_
                  clear zB fB hg9 hv9 S3 go_ hBo
                  go_upto_region 33 with fail
                  obtain ⟨Z, hZ⟩ : ∃ q, q = (((wo.setCell ⟨w7.heap.size, 0, none⟩ (.bool false)).setCell ⟨w7.heap.size, 1, none⟩ (.slice xs2 xn2 xt2)).setCell ⟨w7.heap.size, 2, none⟩ (.slice xs3 xn3 xt3)) := ⟨_, rfl⟩
                  rw [← hZ]
                  have SZ0 := SumR.put HS3.out (V1.out.same (.of_below HS3.out.b))
                  rw [← hZ] at SZ0
                  have SZ := Lib.hid SZ0
                  clear SZ0
                  have GZ : Hid (Z.heap[wv.heap.size]? = some (.cells #[.slice xs0 xn0 xt0, .bool false, .slice xs2 xn2 xt2, .slice xs3 xn3 xt3, .slice xs4 xn4 xt4, .slice xs5 xn5 xt5] 53 (0, 0))) := Lib.hid (by
                    have hs : Same (fun b => b ≠ w7.heap.size) wo Z := by rw [hZ]; exact (((Same.refl _ _).setCell (p := ⟨w7.heap.size, 0, none⟩) (by simp) _).setCell (p := ⟨w7.heap.size, 1, none⟩) (by simp) _).setCell (p := ⟨w7.heap.size, 2, none⟩) (by simp) _
                    have hn9 : wv.heap.size ≠ w7.heap.size := by have := Hw79.out; omega
                    exact (hs _ zl hn9).trans Go_.out)
                  clear z0 z1 z2 z3 z4 z5 zl zB0 zB1 zB2 fB0 fB1 fB2 hZ
                  obtain ⟨z0, z1, z2, z3, z4, z5, zl⟩ := KC.out Z GZ.out
                  have HV4 : Hid (RInts (fun b => b < w7.heap.size) Z (.slice xs4 xn4 xt4) r.elected) := Lib.hid (RInts.same (.of_below SZ.out.b) V4.out)
                  have HLE : Hid (E.length ≤ 1000000 ∧ r.elected.length ≤ 1000000 ∧ O.length ≤ 1000000 ∧ r.out.length ≤ 1000000) := Lib.hid (by have := Hel2.out; have := Hne.out; have := Hol2.out; have := Hno.out; omega)
                  have sa0 := Lib.hid True.intro
                  go_wp2_with (first
                    | (have := sa1; at_builtin; clear sa1; go_must (refine wpList_appT (zs := r.out) w8 Tryz.infoInt rfl rfl Tryz.underlying25 S8.out.o S8.out.a S8.out.ap.symm rfl HV5.out rfl HLE.out.2.2.1 HLE.out.2.2.2 S8.out.b ?_); intro a9 n9 c9 w9 ho9 hy9 ha9 hg9 hat9 hb9; have S9 := Lib.hid (SumR.growB S8.out ho9 hy9 ha9 hg9 hb9); clear ho9 hy9 ha9 hg9 hat9 hb9 this)
                    | (have := sa0; at_builtin; clear sa0; go_must (refine wpList_appT (zs := r.elected) Z Tryz.infoInt rfl rfl Tryz.underlying25 SZ.out.a SZ.out.o SZ.out.ap rfl HV4.out rfl HLE.out.1 HLE.out.2.1 SZ.out.b ?_); intro a8 n8 c8 w8 ho8 hy8 ha8 hg8 hat8 hb8; have S8 := Lib.hid (SumR.growA SZ.out ho8 hy8 ha8 hg8 hb8); have HV5 : Hid (RInts (fun b => b < w7.heap.size) w8 (.slice xs5 xn5 xt5) r.out) := Lib.hid (RInts.same (.of_below S8.out.b) V5.out); have G8 := Lib.hid ((hg8.block _ zl (fun e => own_not SZ.out.a GZ.out e.symm)).trans GZ.out); clear z0 z1 z2 z3 z4 z5 zl; obtain ⟨z0, z1, z2, z3, z4, z5, zl⟩ := KC.out w8 G8.out; clear ho8 hy8 ha8 hg8 hat8 hb8 this; have sa1 := Lib.hid True.intro))
                  exact ⟨⟨k + 1, by omega, by go_num, Lib.hid (by rw [Hst1.out, Hst2.out, Hlast.out.2.2]; exact S9.out)⟩, by simp [intOf]; omega⟩
          · go_wp2_with (first | (go_at_call 11; refine (wakes18 _).mono ?_; rintro e w9 ⟨rfl, hb9⟩; have HB9 := Lib.hid hb9; clear hb9))
            go_ret
            exact ⟨rfl, bt Hb0.out (bt Q7.out (bt hr.out.b HB9.out))⟩
  · have hm' : mayG p seats lot = false := by simp [mayG, h0]
    rw [hm', hW0] at hMay
    obtain ⟨cc, hcc⟩ : ∃ x, p.cands = x := ⟨_, rfl⟩
    obtain ⟨kk, hkk⟩ : ∃ x, p.kind = x := ⟨_, rfl⟩
    obtain ⟨nl, hnl⟩ : ∃ x, lot.length = x := ⟨_, rfl⟩
    rw [hcc, hkk, hnl] at hMay
    rw [hcc, hkk] at hW0
    rw [hcc, hkk, hnl]
    have HM := Lib.hid hMay; have Hb0 := Lib.hid hb0; have HW0 := Lib.hid hW0
    clear hMay hb0 hW0 hP hL h h1 hv h0 hm' hg0 hcc hkk hnl
    go_enter Tryz.func6, Tryz.ntmps6
    go_wp2_with (first
      | (go_at_call 22; refine HM.out.mono ?_; rintro e w1 ⟨rfl, hb⟩; rw [← HW0.out] at hb; have hq := bt Hb0.out hb; clear hb)
      | (go_at_call 11; refine (wakes18 _).mono ?_; rintro e w2 ⟨rfl, hb⟩))
    go_ret
    exact ⟨rfl, bt hq hb⟩
end Go.Proofs.YtakcgoehnkognaaGreat

namespace Go.Proofs.YtakcgoehnkognaaGreat
open Go Go.RowKit Go.ChangeShapes Go.WideShapes Go.ChangeAt

set_option maxRecDepth 100000 in
theorem gregorySum_lifted (os : Os) (started : os.Started) (H : Type) (enc : TypeId × Value → H) :
    ReturnsInHanded {} Tryz.checked os 6 .any (Rows.gregorySumSpec.pre6 enc Tryz.prog Tryz.f6 Rows.gregorySumRow.domain false) (Rows.gregorySumSpec.post enc Tryz.prog Tryz.f6 false true false false) := by
  refine returnsInHanded_of_change_sized (C := Tryz.checked) Tryz.own started (by kernel_rfl) Tryz.func6
    (ChangeSpec.witness6 (enc := enc) (C := Tryz.checked) false ⟨#[], #[.agg #[.int .i64 0, .int .u8 0, .slice none 0 0], .int .i64 0, .slice none 0 0], []⟩ 8 (by kernel_rfl) (by kernel_rfl) (by kernel_rfl) (by kernel_rfl)) ?_
  intro W base args ds gs before hval0 hW hcnd hsz0 _
  have hval : ∀ (j : Nat) t v, Tryz.f6.params[j]? = some t → args[j]? = some v → Value.okWide Tryz.prog W .any base t v := hval0
  have hsz : (DataW.weightsEach Tryz.prog (Tryz.f6.params.toList ++ Rows.gregorySumSpec.plain.varTypes Tryz.prog) (ds ++ gs)).all (· ≤ reachBytes) = true := hsz0
  have hW' := hW
  obtain ⟨p, q, hA0, hV, rfl, hfz, hnd⟩ := hW
  have hA : DataW.TrodAll enc Tryz.prog W 0 (fun _ => true) true Tryz.f6.params.toList args.toList ds p := hA0
  rw [Tryz.params6] at hA hval hsz
  obtain ⟨v0, vs0, d0, ds0, p0, q0, hargs, rfl, rfl, h0, r0⟩ := trodAll_cons hA
  obtain ⟨v1, vs1, d1, ds1, p1, q1, rfl, rfl, rfl, h1, r1⟩ := trodAll_cons r0
  obtain ⟨v2, vs2, d2, ds2, p2, q2, rfl, rfl, rfl, h2, r2⟩ := trodAll_cons r1
  obtain ⟨rfl, rfl, rfl⟩ := trodAll_nil r2
  obtain rfl : args = #[v0, v1, v2] := by cases args; simp_all
  obtain ⟨rfl, rfl⟩ := trodVars_none hV
  have k0 := h0
  have k1 := h1
  have k2 := h2
  have lt0 : ∀ x ∈ p0, x.block < W.heap.size := by obtain ⟨m, hm⟩ := k0; exact DataW.trod_lt m _ _ _ hm
  have lt1 : ∀ x ∈ p1, x.block < W.heap.size := by obtain ⟨m, hm⟩ := k1; exact DataW.trod_lt m _ _ _ hm
  have lt2 : ∀ x ∈ p2, x.block < W.heap.size := by obtain ⟨m, hm⟩ := k2; exact DataW.trod_lt m _ _ _ hm
  obtain ⟨x0, y0⟩ := arg_prof (hval 0 _ v0 rfl rfl) h0 (weights_at hsz 0 rfl rfl)
  obtain ⟨x1, rfl, e1, e1', wf1⟩ := open_int Tryz.underlying3 (hval 1 _ v1 rfl rfl) h1
  obtain ⟨x2, y2⟩ := arg_ints (hval 2 _ v2 rfl rfl) h2 (weights_at hsz 2 rfl rfl)
  clear hA0 hval0
  refine (law_gsum v0 v2 x0 x1 x2 W y0 wf1 y2).mono fun e W' ⟨he, bel⟩ => ?_
  subst he
  exact ⟨_, rfl, _, _, _, [], _, [], hW', trodAll_mk1 (shut_bool Tryz.underlying4 _), (trodAll_cons_mk (Below.trod Tryz.laidOut (by kernel_rfl) (of_decide_eq_true (by kernel_rfl)) k0 bel lt0) (trodAll_cons_mk (Below.trod Tryz.laidOut (by kernel_rfl) (of_decide_eq_true (by kernel_rfl)) k1 bel lt1) (trodAll_cons_mk (Below.trod Tryz.laidOut (by kernel_rfl) (of_decide_eq_true (by kernel_rfl)) k2 bel lt2) trodAll_mk0))), rfl, bel.frame _, fun h => by cases h⟩

theorem gregorySum_named : Tryz.prog.funcNamed Rows.gregorySumRow.func = some 6 := by kernel_rfl
theorem gregorySum_facts : joinedFacts Tryz.prog 6 Tryz.f6 Rows.gregorySumSpec Rows.gregorySumRow = true := by kernel_rfl
theorem gregorySum_inst : Tryz.f6.isInstance Tryz.prog Rows.gregorySumRow.origin Rows.gregorySumRow.targs := of_decide_eq_true (by kernel_rfl)
theorem gregorySum_wrap : Tryz.f6.isWrapper Tryz.prog Rows.gregorySumRow.wrapper Rows.gregorySumRow.mainSum := by
  unfold Func.isWrapper
  rw [if_neg (of_decide_eq_false (by kernel_rfl))]
  exact ⟨rfl, rfl⟩
theorem gregorySum_holds : Rows.GregorySumSaid :=
  OpenClaim.holds_of_wide 6 Tryz.f6 rfl rfl rfl rfl rfl rfl rfl ⟨rfl, rfl, rfl, rfl, rfl⟩ rfl rfl rfl rfl rfl gregorySum_named Tryz.func6 gregorySum_facts
    gregorySum_inst gregorySum_wrap
    (fun os started H enc _ => gregorySum_lifted os started H enc)
#print axioms gregorySum_holds
end Go.Proofs.YtakcgoehnkognaaGreat
