/- The law GregoryRounds returns true whatever the input, and every argument reads behind the call as it read before. No condition. -/
import Derived.Test.YtakcgoehnkognaaGreatDGDec
import Derived.Test.YtakcgoehnkognaaGreatDGRul
import Derived.Test.YtakcgoehnkognaaGreatDGSam
import Derived.Test.YtakcgoehnkognaaGreatDGRen
import Derived.Test.YtakcgoehnkognaaGreatRows
import Derived.WalkKit
import Derived.ProofKit
import Derived.OpenShut
import Derived.ShutString
import Derived.ChangeOld
import Derived.Below

namespace Go.Proofs.YtakcgoehnkognaaGreat
open Go Go.RowKit Go.Shelf Limb

theorem own_notT {base g : Nat} {W : World} {va : Value} {S : Nat → Prop} {ts : List Tie} {cs : Array Value} (ho : Own base 109 2 (dTie S) W va ts) (hg : W.heap[g]? = some (.cells cs 53 (0, 0))) : va.ownBlock ≠ some g := by
  intro e
  obtain ⟨cur, h1⟩ := own_type ho e
  rw [h1] at hg
  simp only [Option.some.injEq, Obj.cells.injEq] at hg
  exact absurd hg.2.1 (by decide)
theorem whole_bill {W w' : World} {q : Int} {e : Ending} {l : Nat} (h0 : 0 ≤ q) (hl : (lim q.toNat).length = l) (h : GivesW q.toNat W e w') : ∃ a c a' c', e = .returned (.agg #[.bool false, .slice a l c, .slice a' 1 c']) ∧ VRt Any w' (.agg #[.bool false, .slice a l c, .slice a' 1 c']) (bill (q * 1000000000)) ∧ Below W.heap.size W w' := by
  obtain ⟨qn, rfl⟩ : ∃ n : Nat, q = (n : Int) := ⟨q.toNat, by omega⟩
  rw [Int.toNat_natCast] at h hl
  obtain ⟨a, c, a', c', rfl, k1, k2, k3⟩ := h
  have : VRt Any w' (.agg #[.bool false, .slice a (lim qn).length c, .slice a' 1 c']) (bill ((qn : Int) * 1000000000)) := by rw [bill_whole, whole_nat]; exact ⟨_, _, rfl, k1.mono fun _ _ => trivial, k2.mono fun _ _ => trivial⟩
  rw [hl] at this ⊢
  exact ⟨_, _, _, _, rfl, this, k3⟩
theorem SeatI.am {base : Nat} {w wr w1 w2 : World} {vt vl va : Value} {s : St} {am : List Int} (h : SeatI base w wr (.slice none 0 0) vt vl s) (_ : Below wr.heap.size wr w1) (h2 : Own wr.heap.size 3 1 (dInt .i64) w1 va am) (hl : am.length ≤ 1000000) (hz : base ≤ wr.heap.size) (hb2 : Below w1.heap.size w1 w2) : RInts (Tz base w2 (.slice none 0 0) vt) w2 va am :=
  RSl.mono (fun _ _ _ h => h) (fun b h => Tz.up hb2.size (.inl rfl) (.inl rfl) b h) ((h.among h2 hl hz).same (.of_below hb2))
set_option maxHeartbeats 16000000 in
set_option maxRecDepth 100000 in
set_option linter.unusedSimpArgs false in
theorem law_grounds (u v : Value) (p : Prof) (seats : Int) (lot : List Int) (w : World) (h : VProf Any w u p) (_ : (Lit.int .i64 seats).wf = true) (hv : RInts Any w v lot) :
    Calls Tryz.prog 7 #[u, .int .i64 seats, v] w fun e w' => e = .returned (.bool true) ∧ Below w.heap.size w w' := by
  have h1 := h
  obtain ⟨a, m, c, rfl⟩ := h.agg
  obtain ⟨a2, c2, rfl, -, -⟩ := RSl.shape hv
  obtain ⟨W0, hW0⟩ : ∃ W0, W0 = w.alloc (.cells #[.int .i64 p.cands, .int .u8 p.kind, .slice a m c] 24) := ⟨_, rfl⟩
  have hb0 : Below w.heap.size w W0 := by rw [hW0]; exact below_new w _
  have hg0 : W0.heap[w.heap.size]? = some (.cells #[.int .i64 p.cands, .int .u8 p.kind, .slice a m c] 24 (0, 0)) := by rw [hW0]; exact box_new w _
  have hP := h1.same (.of_below hb0)
  have hL := hv.same (.of_below hb0)
  have hMay := l18May Any Any _ _ p seats lot W0 hP hL
  by_cases h0 : rankI p seats lot = 0
  · have hm : mayG p seats lot = true := by simp [mayG, h0]
    rw [hm] at hMay
    obtain ⟨C, sn, hF⟩ := rankF h0
    obtain rfl := hF.seats
    have hll : lot.length = C := hF.lot.len
    have hc10 := hF.c10
    have hs1 := hF.s
    have hC10 : C ≤ 10 := hc10.2
    have hsn10 : sn ≤ 10 := by omega
    obtain ⟨k1, k2, k3, k4⟩ := greF_end hF
    have hO := greV_eq hF h0
    obtain ⟨S, hS⟩ : ∃ S, greS p sn lot C = S := ⟨_, rfl⟩
    rw [hS] at k1 k2 k3 k4 hO
    obtain ⟨nr, hnr⟩ : ∃ n, S.rounds.length = n := ⟨_, rfl⟩
    obtain ⟨nt, hnt⟩ : ∃ n, S.ties.length = n := ⟨_, rfl⟩
    rw [hnr] at k2
    rw [hnt] at k3
    have hCt := fun (W : World) (hW : Below W0.heap.size W0 W) => greCountL Any Any _ _ p sn lot W _ (hP.same (.of_below hW)) (hL.same (.of_below hW)) h0 hO k1 hnr hnt
    have hLo := fun (W : World) (hW : Below W0.heap.size W0 W) => hL.same (.of_below hW)
    obtain ⟨kk, hkk⟩ : ∃ x, p.kind = x := ⟨_, rfl⟩
    obtain ⟨hq1, hq2⟩ := quotaV_eq hF
    have hQu := fun (W : World) (hW : Below W0.heap.size W0 W) => greQuota Any _ p sn W (hP.same (.of_below hW))
    rw [hq1, hq2] at hQu
    have hdb := droop_bound hF.votes (s := (sn : Int)) (by omega)
    have hgq : greQ p sn = droop (markS p.rows) sn * 1000000000 := rfl
    have hdec := fun i hi => decG hF (i := i) hi
    have hrg := fun i hi => rndG hF (i := i) hi
    have hrn := gre_rounds hF
    have hti : ∀ i, (greS p sn lot i).ties.length ≤ C := fun i => by have := (greS_sq hF i).ties; omega
    have hin : ∀ i, (greS p sn lot i).inn.length ≤ C := fun i => by have := (greS_sq hF i).rounds; omega
    have h00 : (greS p sn lot 0).inn = rngI C ∧ (greS p sn lot 0).ties = [] ∧ (greS p sn lot 0).el.length = 0 := by
      have hC : p.cands.toNat = C := by rw [hF.cands, Int.toNat_natCast]
      unfold greS
      rw [hC]
      exact ⟨rfl, rfl, rfl⟩
    simp only [hS] at hdec hrg hrn
    obtain ⟨q, hq⟩ : ∃ q, droop (markS p.rows) sn = q := ⟨_, rfl⟩
    obtain ⟨gh, hgh⟩ : ∃ g, gHad p sn lot C = g := ⟨_, rfl⟩
    obtain ⟨si, hsi⟩ : ∃ s, greS p sn lot = s := ⟨_, rfl⟩
    have hB : ∀ i (_ : i < S.rounds.length), ∀ x : Nat, 0 ≤ gI (gh i) x ∧ gI (gh i) x ≤ 1000000000000000 := fun i hi => by
      have := (hrg i hi).bnd
      simp only [hgh] at this
      exact this
    have hlneg : ∀ i (hi : i < S.rounds.length), S.rounds[i].lost.neg = false := fun i hi => by
      have h1 := (hrg i hi).lost
      have h2 := (hrg i hi).lbnd
      rw [h1]
      obtain ⟨z, hz⟩ : ∃ z : Nat, gLost p sn lot C i = (z : Int) := ⟨(gLost p sn lot C i).toNat, by omega⟩
      rw [hz, bill_of]
    rw [hgq] at hdec
    simp only [hq, hgh, hsi] at hQu hdb hdec hrn hti hin h00
    rw [hnr] at hrn
    have hWq := fun (W : World) => (ratWhole q.toNat W (by omega)).mono fun e w' hh => whole_bill (q := q) (by omega) rfl hh
    rw [show ((q.toNat : Nat) : Int) = q by omega] at hWq
    obtain ⟨lq, hlq⟩ : ∃ L, (lim q.toNat).length = L := ⟨_, rfl⟩
    simp only [hlq] at hWq
    obtain ⟨qb, hqb⟩ : ∃ n : Nat, q * 1000000000 = (n : Int) := ⟨(q * 1000000000).toNat, by omega⟩
    have hqb2 : qb ≤ 1000000000000000 := by omega
    simp only [hqb] at hWq hdec
    have hdec2 : ∀ i (hi : i < S.rounds.length), DecR C (gh i) lot (si i).inn (si i).ties (sn - (si i).el.length) (qb : Int) S.rounds[i] (si (i + 1)).inn (si (i + 1)).ties (sn - (si (i + 1)).el.length) := fun i hi => hdec i hi
    have hAl := fun (W : World) => r11All C W (by omega)
    have hll2 : lot.length ≤ 1000000 := by rw [hll]; omega
    have hlof := hF.lot
    have hsel : S.el.length = sn := k1
    have HQu := Lib.hid hQu; have HD := Lib.hid hdec2; have HB := Lib.hid hB; have HWq := Lib.hid hWq; have HAl := Lib.hid hAl; have Hti := Lib.hid hti; have Hin := Lib.hid hin; have H00 := Lib.hid h00; have Hrn := Lib.hid hrn; have HQb := Lib.hid hqb2; have Hneg := Lib.hid hlneg; have Hll2 := Lib.hid hll2; have HLot := Lib.hid hlof; have Hsel := Lib.hid hsel
    clear hQu hdec hdec2 hrg hB hWq hAl hti hin h00 hrn hdb hqb hqb2 hlneg hll2 hlof hgq hq hgh hsi hlq hq1 hq2 hsel
    simp only [hF.cands, hkk, hll] at hMay hCt hLo hW0 hg0 ⊢
    have HQu2 := HQu.out
    simp only [hF.cands, hkk] at HQu2
    have HQ := Lib.hid HQu2
    rw [hW0] at hMay
    clear HQu HQu2
    have HM := Lib.hid hMay; have HCt := Lib.hid hCt; have HLo := Lib.hid hLo; have HW0 := Lib.hid hW0; have G0 := Lib.hid hg0; have Hb0 := Lib.hid hb0; have HF := Lib.hid hF; have Hll := Lib.hid hll; have HJ := Lib.hid k4; have Hel := Lib.hid k1; have Hnr := Lib.hid hnr; have Hnt := Lib.hid hnt; have HS := Lib.hid hS
    clear hMay hCt hLo hW0 hg0 hb0 hF hll k4 k1 hnr hnt hS hP hL h h1 hv hm h0 hO hkk hc10
    have st0 := Lib.hid True.intro
    go_enter Tryz.func7, Tryz.ntmps7
    go_upto_region 8 with (first
      | (have := st3; go_at_call 30; clear st3; refine (HAl.out _).mono ?_; rintro e w4 ⟨vl0, rfl, ho, hb⟩; have C4 := Lib.hid hb; have HO4 := Lib.hid ho; clear hb ho pa pb pc pl this; have st4 := Lib.hid True.intro)
      | (have := st2; go_at_call 15; clear st2; refine (HQ.out _ (bt q2.out (below_new w2 (.cells #[.slice b1 sn d1, .slice b2 nr d2, .slice b3 nt d3] 32)))).mono ?_; rintro e w3 ⟨rfl, hb⟩; have C3 := Lib.hid hb; have q3 := Lib.hid (bt q2.out (bt (below_new w2 (.cells #[.slice b1 sn d1, .slice b2 nr d2, .slice b3 nt d3] 32)) hb)); clear hb pa pb pc pl; obtain ⟨pa, pb, pc, pl⟩ := box3 G0.out q3.out; clear this; have st3 := Lib.hid True.intro)
      | (have := st0; go_at_call 22; clear st0; refine HM.out.mono ?_; rintro e w1 ⟨rfl, hb⟩; rw [← HW0.out] at hb; have q1 := Lib.hid hb; obtain ⟨pa, pb, pc, pl⟩ := box3 G0.out hb; clear hb; have st1 := Lib.hid True.intro; clear this)
      | (have := st1; go_at_call 13; clear st1; refine (HCt.out _ q1.out).mono ?_; rintro e w2 ⟨b1, d1, b2, d2, b3, d3, rfl, kv, hb⟩; have q2 := Lib.hid (bt q1.out hb); have HV2 := Lib.hid kv; clear hb kv pa pb pc pl; obtain ⟨pa, pb, pc, pl⟩ := box3 G0.out q2.out; have st2 := Lib.hid True.intro; clear this))
    have GX := Lib.hid (keep_box C3.out (box_new w2 (.cells #[.slice b1 sn d1, .slice b2 nr d2, .slice b3 nt d3] 32)))
    have hV := HV2.out.same (w' := w3) (.of_below (bt (below_new w2 (.cells #[.slice b1 sn d1, .slice b2 nr d2, .slice b3 nt d3] 32)) C3.out))
    obtain ⟨-, hR, hT⟩ := hV.split
    have HR : Hid (RRnds (fun b => b < w3.heap.size) w3 (.slice b2 nr d2) S.rounds) := Lib.hid (RRnds.mono (fun _ h => h.2) hR.cut)
    have HTs := Lib.hid hT
    have HLo3 := fun (W : World) (hW : Below w3.heap.size w3 W) => HLo.out W (bt q3.out hW)
    have HL3 := Lib.hid HLo3
    clear hV hR hT HLo3
    have S0 : Hid (SeatI w3.heap.size w3 w4 (.slice none 0 0) (.slice none 0 0) vl0 ⟨(si 0).inn, [], (si 0).ties⟩) := Lib.hid ⟨Own.nil _ _ _ _ _, by rw [H00.out.2.1]; exact Own.nil _ _ _ _ _, by rw [H00.out.1]; exact HO4.out, fun b _ e => by simp [Value.ownBlock] at e, C4.out⟩
    have Hsn0 : ((sn - (si 0).el.length : Nat) : Int) = sn := by rw [H00.out.2.2]; rfl
    go_wp2
    go_loopw [11, 12, 13, 14] (fun vi vl vt i wr => ∃ k : Nat, k ≤ nr ∧ i = .int .i64 k ∧ vl = .int .i64 ((sn - (si k).el.length : Nat) : Int) ∧ Hid (SeatI w3.heap.size w3 wr (.slice none 0 0) vt vi ⟨(si k).inn, [], (si k).ties⟩)) (fun _ _ _ i _ => nr - (intOf i).toNat)
    case atStart => exact ⟨0, Nat.zero_le _, rfl, by rw [Hsn0], S0⟩
    case round =>
      clear Hsn0 S0
      obtain ⟨k, hk, rfl, rfl, hI⟩ := hrel
      obtain ⟨wv, rfl⟩ : ∃ q : World, q = wr := ⟨_, rfl⟩
      have hb := hI.out.below
      obtain ⟨o0, o1, o2, ol⟩ := box3 GX.out hb
      by_cases hlt : k < nr
      · have hlr : k < S.rounds.length := by rw [Hnr.out]; exact hlt
        have hD := HD.out k hlr
        have hB := HB.out k hlr
        have hneg := Hneg.out k hlr
        obtain ⟨H, hH⟩ : ∃ l, gh k = l := ⟨_, rfl⟩
        obtain ⟨r, hrr⟩ : ∃ r, S.rounds[k] = r := ⟨_, rfl⟩
        obtain ⟨xb, xoff, xd0, xd1, xd2, xd3, xd4, xd5, rfl, xS, xl, x0, x1, x2, x3, x4, x5, hx⟩ := RSl.at6 HR.out k hlr
        obtain ⟨xs0, xn0, xt0, xs2, xn2, xt2, xs3, xn3, xt3, xs4, ne, xt4, xs5, no, xt5, rfl, rfl, rfl, rfl, rfl, rfl, v0, v1, v4, v5⟩ := hx.open
        have hsm := Same.of_below (S := Any) hb
        replace x0 := hsm.cell trivial x0
        replace x1 := hsm.cell trivial x1
        replace x2 := hsm.cell trivial x2
        replace x3 := hsm.cell trivial x3
        replace x4 := hsm.cell trivial x4
        replace x5 := hsm.cell trivial x5
        have hxl : xb < wv.heap.size := Nat.lt_of_lt_of_le xl hb.size
        rw [hrr] at hD hneg v0 v1 v4 v5 x1
        rw [hH] at hD hB
        rw [hneg] at x1
        rw [hD.had] at v0
        obtain rfl : xn0 = C := (RSl.len v0).trans (by rw [List.length_map]; exact hD.hlen)
        have hne : r.elected.length = ne := (RSl.len v4).symm
        have hno : r.out.length = no := (RSl.len v5).symm
        obtain ⟨inn, hinn⟩ : ∃ l, (si k).inn = l := ⟨_, rfl⟩
        obtain ⟨T, hT⟩ : ∃ l, (si k).ties = l := ⟨_, rfl⟩
        obtain ⟨inn2, hinn2⟩ : ∃ l, (si (k + 1)).inn = l := ⟨_, rfl⟩
        obtain ⟨T2, hT2⟩ : ∃ l, (si (k + 1)).ties = l := ⟨_, rfl⟩
        obtain ⟨ll, hll1⟩ : ∃ l, sn - (si k).el.length = l := ⟨_, rfl⟩
        obtain ⟨ll2, hll2⟩ : ∃ l, sn - (si (k + 1)).el.length = l := ⟨_, rfl⟩
        have hil := Hin.out k
        have htl := Hti.out k
        have hll10 : ll ≤ 10 := by omega
        rw [hinn, hT, hinn2, hT2, hll1, hll2] at hD
        rw [hinn, hT] at hI
        rw [hinn] at hil
        rw [hT] at htl
        rw [hll1]
        obtain ⟨ni, hni⟩ : ∃ n, inn.length = n := ⟨_, rfl⟩
        obtain ⟨nt_, hnt_⟩ : ∃ n, T.length = n := ⟨_, rfl⟩
        obtain ⟨ai, ci, rfl⟩ := Own.shape hI.out.le
        obtain ⟨at_, ct, rfl⟩ := Own.shape hI.out.ti
        simp only [hni, hnt_] at hI hil htl ⊢
        have hD2 := hD
        have hel1 := hD.len
        have hel2 := hD.lel
        have hel3 := hD.outs
        have hall := hD.all
        have hone := hD.one
        rw [hne, hni] at hel1
        rw [hne] at hel2
        rw [hno] at hel3
        rw [hne, hni] at hall
        rw [hne, hno, hni] at hone
        have hne10 : ne ≤ 10 := by omega
        have hni10 : ni ≤ 10 := by omega
        obtain ⟨ba, hba⟩ : ∃ b, decide (ni ≤ ll) = b := ⟨_, rfl⟩
        have hb1 : ba = true → ((ne : Int) != (ni : Int)) = false := fun e => by
          rw [e] at hba
          have := hall (of_decide_eq_true hba)
          simp; omega
        have hb2 : ba = false → (((ne : Int) + (no : Int)) != 1) = false := fun e => by
          rw [e] at hba
          have := hone (of_decide_eq_false hba)
          simp; omega
        have hb3 : ba = false → ∀ j, j < ne → (qb : Int) ≤ gI H (firstL lot (bestL (gI H) (fillS H lot inn j).left)) := fun e j hj => by
          rw [e] at hba
          exact hD2.reach (by rw [hni]; exact of_decide_eq_false hba) j (by rw [hne]; exact hj)
        obtain ⟨X1, hX1⟩ : ∃ W, W = wv.alloc (.cells #[.slice xs0 xn0 xt0, .bool false, .slice xs2 xn2 xt2, .slice xs3 xn3 xt3, .slice xs4 ne xt4, .slice xs5 no xt5] 53) := ⟨_, rfl⟩
        have hbX1 : Below wv.heap.size wv X1 := by rw [hX1]; exact below_new _ _
        have gX1 : X1.heap[wv.heap.size]? = some (.cells #[.slice xs0 xn0 xt0, .bool false, .slice xs2 xn2 xt2, .slice xs3 xn3 xt3, .slice xs4 ne xt4, .slice xs5 no xt5] 53 (0, 0)) := by rw [hX1]; exact box_new _ _
        have KC : Hid (∀ W : World, W.heap[wv.heap.size]? = some (.cells #[.slice xs0 xn0 xt0, .bool false, .slice xs2 xn2 xt2, .slice xs3 xn3 xt3, .slice xs4 ne xt4, .slice xs5 no xt5] 53 (0, 0)) → W.cell? ⟨wv.heap.size, 0, none⟩ = some (.slice xs0 xn0 xt0) ∧ W.cell? ⟨wv.heap.size, 1, none⟩ = some (.bool false) ∧ W.cell? ⟨wv.heap.size, 2, none⟩ = some (.slice xs2 xn2 xt2) ∧ W.cell? ⟨wv.heap.size, 3, none⟩ = some (.slice xs3 xn3 xt3) ∧ W.cell? ⟨wv.heap.size, 4, none⟩ = some (.slice xs4 ne xt4) ∧ W.cell? ⟨wv.heap.size, 5, none⟩ = some (.slice xs5 no xt5) ∧ wv.heap.size < W.heap.size) := Lib.hid fun W h => ⟨(own_box (Below.refl _ W) (size_of_box h) h).2.1 0, (own_box (Below.refl _ W) (size_of_box h) h).2.1 1, (own_box (Below.refl _ W) (size_of_box h) h).2.1 2, (own_box (Below.refl _ W) (size_of_box h) h).2.1 3, (own_box (Below.refl _ W) (size_of_box h) h).2.1 4, (own_box (Below.refl _ W) (size_of_box h) h).2.1 5, size_of_box h⟩
        have I1 : Hid (SeatI w3.heap.size w3 X1 (.slice none 0 0) (.slice at_ nt_ ct) (.slice ai ni ci) ⟨inn, [], T⟩) := Lib.hid (hI.out.later hbX1 hb.size)
        have V0 : Hid (RRts (fun b => b < w3.heap.size) w3 (.slice xs0 xn0 xt0) (H.map bill)) := Lib.hid v0
        have V4 : Hid (RInts (fun b => b < w3.heap.size) w3 (.slice xs4 ne xt4) r.elected) := Lib.hid v4
        have V5 : Hid (RInts (fun b => b < w3.heap.size) w3 (.slice xs5 no xt5) r.out) := Lib.hid v5
        have HD1 := Lib.hid hD2; have HB1 := Lib.hid hB; have HX1 := Lib.hid hX1; have GX1 := Lib.hid gX1; have Hne := Lib.hid hne; have Hno := Lib.hid hno; have Hni := Lib.hid hni; have Hntt := Lib.hid hnt_; have Hb3 := Lib.hid hb3; have Hi2 := Lib.hid hinn2; have HT2 := Lib.hid hT2; have Hll3 := Lib.hid hll2
        have hwz := hb.size
        clear v0 v1 v4 v5 hD hD2 hB hneg hH hrr hsm hx xS xl hne hno hni hnt_ hinn hT hinn2 hT2 hll1 hll2 hall hone hb3 hX1 gX1 hbX1 hI hb
        go_upto_region 13 with fail
        rw [← HX1.out]
        clear x0 x1 x2 x3 x4 x5 o0 o1 o2 ol
        obtain ⟨z0, z1, z2, z3, z4, z5, zl⟩ := KC.out X1 GX1.out
        obtain ⟨pa, pb, pc, pl⟩ := box3 G0.out (bt q3.out I1.out.below)
        go_upto_region 15 with fail
        clear pa pb pc pl
        go_cut [16] from 77 to 81 (fun s16 wc => s16 = .bool ba ∧ wc = X1)
        case first =>
          go_wp2
          go_meet
          exact ⟨by rw [← hba], rfl⟩
        case rest =>
          obtain ⟨rfl, hwc⟩ := hcut
          obtain rfl := hwc.symm
          go_upto_region 16 with fail
          go_cut [103] from 81 to 103 (fun s wc => s = .bool false ∧ wc = X1)
          case first =>
            cases ba with
            | true =>
              have := hb1 rfl
              go_wp2
              go_meet
              exact ⟨rfl, rfl⟩
            | false =>
              have := hb2 rfl
              go_wp2
              go_meet
              exact ⟨rfl, rfl⟩
          case rest =>
            obtain ⟨rfl, hwc⟩ := hcut
            obtain rfl := hwc.symm
            clear z0 z1 z2 z3 z4 z5 zl hb1 hb2
            go_wp2
            go_loopw [11, 12, 13, 17] (fun vi vl vt i wr => ∃ j : Nat, j ≤ ne ∧ i = .int .i64 j ∧ vl = .int .i64 ((ll : Int) - j) ∧ Hid (SeatI w3.heap.size w3 wr (.slice none 0 0) vt vi ⟨(fillS H lot inn j).left, [], T ++ (fillS H lot inn j).ties⟩) ∧ Hid (wr.heap[wv.heap.size]? = some (.cells #[.slice xs0 xn0 xt0, .bool false, .slice xs2 xn2 xt2, .slice xs3 xn3 xt3, .slice xs4 ne xt4, .slice xs5 no xt5] 53 (0, 0)))) (fun _ _ _ i _ => ne - (intOf i).toNat)
            case atStart => exact ⟨0, Nat.zero_le _, rfl, by simp, Lib.hid (by simpa [fillS] using I1.out), GX1⟩
            case round =>
              obtain ⟨j, hj, rfl, rfl, hIj, hgx⟩ := hrel
              obtain ⟨wj, rfl⟩ : ∃ q : World, q = wr := ⟨_, rfl⟩
              obtain ⟨z0, z1, z2, z3, z4, z5, zl⟩ := KC.out wj hgx.out
              have hbj := hIj.out.below
              obtain ⟨aj, cj, rfl⟩ := Own.shape hIj.out.le
              obtain ⟨atj, ctj, rfl⟩ := Own.shape hIj.out.ti
              obtain ⟨L, hL⟩ : ∃ l, (fillS H lot inn j).left = l := ⟨_, rfl⟩
              obtain ⟨F, hF⟩ : ∃ l, (fillS H lot inn j).ties = l := ⟨_, rfl⟩
              obtain ⟨TT, hTT⟩ : ∃ l, T ++ F = l := ⟨_, rfl⟩
              obtain ⟨nL, hnL⟩ : ∃ n, L.length = n := ⟨_, rfl⟩
              obtain ⟨nT, hnT⟩ : ∃ n, TT.length = n := ⟨_, rfl⟩
              simp only [hL, hF, hTT, hnL, hnT] at hIj ⊢
              have hzj := hbj.size
              by_cases hlt2 : j < ne
              · obtain ⟨a1, a2, a3, a4, a5, a6⟩ := fill_at (H := H) HLot.out HD1.out.rng HD1.out.asc (j := j) (show j < inn.length by rw [Hni.out]; omega)
                have hels := HD1.out.els j (by rw [Hne.out]; exact hlt2)
                have hb4 := fun e => Hb3.out e j hlt2
                obtain ⟨am, ham⟩ : ∃ l, bestL (gI H) L = l := ⟨_, rfl⟩
                obtain ⟨x, hx⟩ : ∃ x, firstL lot am = x := ⟨_, rfl⟩
                have hstep : (fillS H lot inn (j + 1)).left = L.filter (fun y => !(y == x)) ∧ T ++ (fillS H lot inn (j + 1)).ties = TT ++ tieL am x := by
                  simp only [fillS, hL, ham, hx, hF]
                  exact ⟨trivial, by rw [← hTT, List.append_assoc]⟩
                simp only [hL, hF, ham, hx] at a1 a2 a3 a4 a5 a6 hels hb4
                obtain ⟨xn, rfl⟩ : ∃ n : Nat, x = (n : Int) := ⟨x.toNat, by omega⟩
                have hxC : xn < xn0 := by omega
                have haml : am.length ≤ 1000000 := by rw [← ham]; exact Nat.le_trans (List.length_filter_le _ _) (by rw [Hni.out] at a5; omega)
                have hnL10 : nL ≤ 10 := by rw [← hnL]; rw [Hni.out] at a5; omega
                have hnT10 : nT ≤ 20 := by rw [← hnT, ← hTT, List.length_append, Hntt.out]; omega
                obtain ⟨eb, eoff, ec, rfl, -, -, hec, hed⟩ := RSl.at1 (V4.out.same (.of_below hbj)) j (by rw [Hne.out]; exact hlt2)
                obtain ⟨rfl, hxw⟩ := hed.open
                rw [hels] at hec hxw
                obtain ⟨hb_, ho_, u3, l3, m3, u4, l4, m4, rfl, -, hbl, k0, k1, k2, kv⟩ := ent_at (V0.out.same (.of_below hbj)) (j := xn) (by rw [HD1.out.hlen]; exact hxC) (HB1.out xn).1
                obtain ⟨hn, hhn⟩ : ∃ z : Nat, gI H xn = (z : Int) := ⟨(gI H xn).toNat, by have := (HB1.out xn).1; omega⟩
                have hnb : hn ≤ 1000000000000000 := by have := (HB1.out xn).2; omega
                rw [hhn] at kv
                have hLr := Own.ints hIj.out.le (by rw [hnL]; omega)
                have hIn := fun (W : World) (hW : Below wj.heap.size wj W) => in_c Any _ L (xn : Int) W (RInts.same (.of_below hW) hLr)
                rw [hasI_mem.2 a1] at hIn
                have hAk := fun (W : World) (hW : Below wj.heap.size wj W) => lawAlike (fun b => b < w3.heap.size) Any (.slice (some ⟨hb_, ho_, none⟩) xn0 xt0) _ H L (xn : Int) 1 xn0 W (V0.out.same (.of_below (bt hbj hW))) (RInts.same (.of_below hW) hLr) HD1.out.hlen (by omega) HB1.out ⟨by omega, by omega⟩ (.inl ⟨rfl, fun y hy => (a4 y hy).2⟩)
                rw [a3] at hAk
                have hCm := fun (W : World) (v : Value) (hW : Below wj.heap.size wj W) (hv : VRt Any W v (bill (qb : Int))) => r4CmpB Any Any (.agg #[.bool false, .slice u3 l3 m3, .slice u4 l4 m4]) v hn qb W (kv.same (.of_below hW)) hv (by omega) (by have := HQb.out; omega)
                have hc1 : ba = false → decide (cmpN hn qb < 0) = false := fun e => decide_eq_false (cmpN_up (by have := hb4 e; omega))
                obtain ⟨cn, hcn⟩ : ∃ c, cmpN hn qb = c := ⟨_, rfl⟩
                simp only [hcn] at hCm hc1
                have hS25 : ∀ W : World, Below wj.heap.size wj W → (fun W : World => W.cell? ⟨wv.heap.size, 0, none⟩ = some (.slice (some ⟨hb_, ho_, none⟩) xn0 xt0) ∧ W.cell? ⟨hb_, ho_ + xn * 3, none⟩ = some (.bool false) ∧ W.cell? ⟨hb_, ho_ + xn * 3 + 1, none⟩ = some (.slice u3 l3 m3) ∧ W.cell? ⟨hb_, ho_ + xn * 3 + 2, none⟩ = some (.slice u4 l4 m4)) W := fun W hW => by
                  have hs := Same.of_below (S := Any) hW
                  exact ⟨hs.cell trivial z0, hs.cell trivial k0, hs.cell trivial k1, hs.cell trivial k2⟩
                have HIn := Lib.hid hIn; have HAk := Lib.hid hAk; have HCm := Lib.hid hCm; have Hc1 := Lib.hid hc1; have HS25 := Lib.hid hS25; have Hstep := Lib.hid hstep; have Haml := Lib.hid haml; have HX := Lib.hid hx; have Hxw := Lib.hid hxw; have HNL := Lib.hid hnL; have HNT := Lib.hid hnT; have Hgx := hgx; have Hzl := Lib.hid zl; have Hbj := Lib.hid hbj
                clear hIn hAk hCm hc1 hS25 hstep haml hx hxw a1 a2 a3 a4 a5 a6 hels hb4 ham kv hhn hcn hLr hbl hL hF hTT hnL hnT hnb hed hbj
                go_upto_region 24 with (first | (go_at_call 23; refine (HIn.out _ (Below.refl _ wj)).mono ?_; rintro e w5 ⟨rfl, hb⟩; have B5 := Lib.hid hb; clear hb))
                clear z0 z1 z2 z3 z4 z5 zl
                obtain ⟨z0, z1, z2, z3, z4, z5, zl⟩ := KC.out w5 ((B5.out.block _ Hzl.out).trans Hgx.out)
                go_upto_region 25 with (first | (go_at_call 31; refine (HAk.out _ B5.out).mono ?_; rintro e w6 ⟨va, rfl, ho, hb⟩; have B6 := Lib.hid (bt B5.out hb); have B56 := Lib.hid hb; have HO6 := Lib.hid ho; clear hb ho))
                obtain ⟨aa, ca, rfl⟩ := Own.shape HO6.out
                obtain ⟨na, hna⟩ : ∃ n, am.length = n := ⟨_, rfl⟩
                have HNA := Lib.hid hna
                rw [hna]
                rw [hna] at HO6
                clear hna
                clear z0 z1 z2 z3 z4 z5 zl k0 k1 k2 hec
                refine wp_region_L (S := (fun W : World => W.cell? ⟨wv.heap.size, 0, none⟩ = some (.slice (some ⟨hb_, ho_, none⟩) xn0 xt0) ∧ W.cell? ⟨hb_, ho_ + xn * 3, none⟩ = some (.bool false) ∧ W.cell? ⟨hb_, ho_ + xn * 3 + 1, none⟩ = some (.slice u3 l3 m3) ∧ W.cell? ⟨hb_, ho_ + xn * 3 + 2, none⟩ = some (.slice u4 l4 m4))) (L := []) (by kernel_rfl) (HS25.out _ (bt B6.out (Below.drew (Below.refl _ w6)))) (fun hHeld => ?_)
                refine tk 0 ?_ rfl hHeld ?_ ?_; rotate_left
                · intro w hSw; (try dsimp only at hSw); go_simp; try (with_reducible rfl)
                (try simp only [la, lb, lc, ld, lf, lg, lh])
                refine tk 1 ?_ rfl hHeld ?_ ?_; rotate_left
                · intro w hSw; (try dsimp only at hSw); go_simp; try (with_reducible rfl)
                (try simp only [la, lb, lc, ld, lf, lg, lh])
                refine tk 2 ?_ rfl hHeld ?_ ?_; rotate_left
                · intro w hSw; (try dsimp only at hSw); go_simp; try (with_reducible rfl)
                (try simp only [la, lb, lc, ld, lf, lg, lh])
                refine tk 3 ?_ rfl hHeld ?_ ?_; rotate_left
                · intro w hSw; (try dsimp only at hSw); go_simp; try (with_reducible rfl)
                (try simp only [la, lb, lc, ld, lf, lg, lh])
                refine tk 4 ?_ rfl hHeld ?_ ?_; rotate_left
                · intro w hSw; (try dsimp only at hSw); go_simp; try (with_reducible rfl)
                (try simp only [la, lb, lc, ld, lf, lg, lh])
                refine tk 5 ?_ rfl hHeld ?_ ?_; rotate_left
                · intro w hSw; (try dsimp only at hSw); go_simp; try (with_reducible rfl)
                (try simp only [la, lb, lc, ld, lf, lg, lh])
                refine wpAnyL_one (i := 6) (by kernel_rfl) rfl (fun K hK => ?_)
                (go_simp; go_at_call 26; refine (HWq.out _).mono ?_; rintro e w7 ⟨a7, c7, b7, e7, rfl, kb, hb⟩; have B67 := Lib.hid (bt (Below.drew (Below.refl _ w6)) hb); have K7 := Lib.hid kb; clear kb hb)
                refine hK.out _ _ (HS25.out _ (bt B6.out B67.out)) (fun hHeld => ?_)
                clear hK K
                (try simp only [la, lb, lc, ld, lf, lg, lh])
                refine wpAnyL_one (i := 7) (by kernel_rfl) rfl (fun K hK => ?_)
                (go_simp; go_at_call 29; refine (HCm.out _ _ (bt B6.out B67.out) K7.out).mono ?_; rintro e w8 ⟨rfl, hb⟩; have B68 := Lib.hid (bt B67.out hb); clear hb)
                refine hK.out _ _ (HS25.out _ (bt B6.out B68.out)) (fun hHeld => ?_)
                clear hK K
                (try simp only [la, lb, lc, ld, lf, lg, lh])
                refine tk 8 ?_ rfl hHeld ?_ ?_; rotate_left
                · intro w hSw; (try dsimp only at hSw); go_simp; try (with_reducible rfl)
                (try simp only [la, lb, lc, ld, lf, lg, lh])
                refine tk 9 ?_ rfl hHeld ?_ ?_; rotate_left
                · intro w hSw; (try dsimp only at hSw); go_simp; try (with_reducible rfl)
                (try simp only [la, lb, lc, ld, lf, lg, lh])
                refine tk 10 ?_ rfl hHeld ?_ ?_; rotate_left
                · intro w hSw; (try dsimp only at hSw); go_simp; try (with_reducible rfl)
                (try simp only [la, lb, lc, ld, lf, lg, lh])
                refine tk 11 ?_ rfl hHeld ?_ ?_; rotate_left
                · intro w hSw; (try dsimp only at hSw); go_simp; try (with_reducible rfl)
                (try simp only [la, lb, lc, ld, lf, lg, lh])
                refine tk 12 ?_ rfl hHeld ?_ ?_; rotate_left
                · intro w hSw; (try dsimp only at hSw); go_simp; try (with_reducible rfl)
                (try simp only [la, lb, lc, ld, lf, lg, lh])
                refine wpAnyL_done (by kernel_rfl) ?_ _
                have B8 := Lib.hid (bt B6.out B68.out)
                have HI8 := Lib.hid (hIj.out.later B8.out hzj)
                have HAm := Lib.hid (SeatI.am (hIj.out.later B5.out hzj) (B56.out) HO6.out Haml.out (Nat.le_trans hzj B5.out.size) B68.out)
                have G8 := Lib.hid ((B8.out.block _ Hzl.out).trans Hgx.out)
                have hFi := r11First Any _ _ _ lot am w8 (RInts.mono (fun _ _ => trivial) (HL3.out w8 (bt Hbj.out B8.out))) HAm.out
                rw [HX.out] at hFi
                have hz8 := Nat.le_trans hzj B8.out.size
                have hTi := r11TiedG w3.heap.size _ _ _ TT am (xn : Int) w8 HI8.out.ti (fun b hb => hb.2.2.2) HAm.out Hxw.out hz8 (by rw [HNT.out]; omega)
                have HFi := Lib.hid hFi; have HTi := Lib.hid hTi
                clear hFi hTi B5 B6 B56 B67 B68 K7
                go_upto_region 26 with fail
                go_cut [159] from 139 to 159 (fun s wc => s = .bool false ∧ wc = w8)
                case first =>
                  cases ba with
                  | true =>
                    go_wp2_with (go_at_call 32; refine HFi.out.mono ?_; rintro e w1' ⟨rfl, rfl⟩)
                    go_meet
                    exact ⟨by simp, rfl⟩
                  | false =>
                    have hc := Hc1.out rfl
                    go_wp2_with (go_at_call 32; refine HFi.out.mono ?_; rintro e w1' ⟨rfl, rfl⟩)
                    go_meet
                    exact ⟨by simp, rfl⟩
                case rest =>
                  obtain ⟨rfl, hwc⟩ := hcut
                  obtain rfl := hwc.symm
                  go_wp2_with (first
                    | (go_at_call 33; refine HTi.out.mono ?_; rintro e w9 ⟨vt9, rfl, k2, k3, k4, k5⟩; have HI9 := Lib.hid (HI8.out.tie k2 k3 k4 k5); have G9 := Lib.hid ((k4.block _ (size_of_box G8.out) (fun e => own_notT HI8.out.ti G8.out e.symm)).trans G8.out); clear k2 k3 k4 k5)
                    | (go_at_call 34; refine (r11Without _ _ L (xn : Int) _ (Own.rsl HI9.out.le (by rw [HNL.out]; omega)) (by rw [HNL.out]; omega)).mono ?_; rintro e w10 ⟨vl10, rfl, ho, hb⟩; have HI10 := Lib.hid (HI9.out.drop ho hb HI9.out.below.size); have G10 := Lib.hid ((hb.block _ (size_of_box G9.out)).trans G9.out); clear ho hb))
                  exact ⟨⟨j + 1, by omega, by go_num, by go_num, Lib.hid (by rw [Hstep.out.1, Hstep.out.2]; exact HI10.out), G10⟩, by simp [intOf]; omega⟩
              · have hje : ne = j := by omega
                subst hje
                clear hj hlt2
                go_wp2
                go_loopw [11, 13, 23] (fun vi vt i wr => ∃ j2 : Nat, j2 ≤ no ∧ i = .int .i64 j2 ∧ Hid (SeatI w3.heap.size w3 wr (.slice none 0 0) vt vi (if j2 = 0 then ⟨L, [], TT⟩ else ⟨inn2, [], T2⟩)) ∧ Hid (wr.heap[wv.heap.size]? = some (.cells #[.slice xs0 xn0 xt0, .bool false, .slice xs2 xn2 xt2, .slice xs3 xn3 xt3, .slice xs4 ne xt4, .slice xs5 no xt5] 53 (0, 0)))) (fun _ _ i _ => no - (intOf i).toNat)
                case atStart => exact ⟨0, Nat.zero_le _, rfl, hIj, hgx⟩
                case round =>
                  clear z0 z1 z2 z3 z4 z5 zl hgx
                  have Hbj := Lib.hid hbj
                  clear hbj hIj
                  obtain ⟨j2, hj2, rfl, hIo, hgo⟩ := hrel
                  obtain ⟨wo, rfl⟩ : ∃ q : World, q = wr := ⟨_, rfl⟩
                  obtain ⟨z0, z1, z2, z3, z4, z5, zl⟩ := KC.out wo hgo.out
                  by_cases hlt3 : j2 < no
                  · obtain rfl : j2 = 0 := by omega
                    have hno0 : 0 < r.out.length := by rw [Hno.out]; exact hlt3
                    obtain ⟨s1, s2, s3, s4, s5⟩ := HD1.out.some hno0
                    have hj0 : ne = 0 := by rw [← Hne.out]; exact s1
                    rw [hj0] at hL hF
                    have hL' : inn = L := hL
                    have hF' : [] = F := hF
                    subst hL' hF'
                    rw [List.append_nil] at hTT
                    subst hTT
                    simp only [if_pos, if_true, Hni.out, Hntt.out] at hIo
                    obtain rfl : ni = nL := Hni.out.symm.trans hnL
                    obtain rfl : nt_ = nT := Hntt.out.symm.trans hnT
                    obtain ⟨c1, c2, c3⟩ := out_at (H := H) HLot.out HD1.out.rng HD1.out.asc (List.length_pos_iff.1 HD1.out.ne)
                    obtain ⟨am, ham⟩ : ∃ l, bestL (fun y => - gI H y) inn = l := ⟨_, rfl⟩
                    obtain ⟨x, hx⟩ : ∃ x, firstL lot.reverse am = x := ⟨_, rfl⟩
                    simp only [ham, hx] at c1 c2 c3 s2 s4 s5
                    rw [s2] at s4 s5
                    have hxr := HD1.out.rng x c1
                    obtain ⟨xn, rfl⟩ : ∃ n : Nat, x = (n : Int) := ⟨x.toNat, by omega⟩
                    have hxC : xn < xn0 := by omega
                    have haml : am.length ≤ 1000000 := by rw [← ham]; exact Nat.le_trans (List.length_filter_le _ _) (by rw [Hni.out]; omega)
                    have hbo := hIo.out.below
                    have hzo := hbo.size
                    obtain ⟨ao, co, hvo⟩ := Own.shape hIo.out.le
                    simp only [Hni.out] at hvo
                    subst hvo
                    obtain ⟨ato, cto, hvt⟩ := Own.shape hIo.out.ti
                    simp only [Hntt.out] at hvt
                    subst hvt
                    obtain ⟨eb, eoff, ec, rfl, -, -, hec, hed⟩ := RSl.at1 (V5.out.same (.of_below hbo)) 0 hno0
                    obtain ⟨rfl, hxw⟩ := hed.open
                    rw [s2] at hec hxw
                    rw [Nat.add_zero] at hec
                    have hLr := Own.ints hIo.out.le (by rw [Hni.out]; omega)
                    have hIn := fun (W : World) (hW : Below wo.heap.size wo W) => in_c Any _ inn (xn : Int) W (RInts.same (.of_below hW) hLr)
                    rw [hasI_mem.2 c1] at hIn
                    have hAk := fun (W : World) (hW : Below wo.heap.size wo W) => lawAlike (fun b => b < w3.heap.size) Any (.slice xs0 xn0 xt0) _ H inn (xn : Int) (-1) xn0 W (V0.out.same (.of_below (bt hbo hW))) (RInts.same (.of_below hW) hLr) HD1.out.hlen (by omega) HB1.out ⟨by omega, by omega⟩ (.inr ⟨rfl, c3⟩)
                    rw [c2] at hAk
                    have hLrW := fun (W : World) (hW : Below wo.heap.size wo W) => RInts.same (.of_below hW) hLr
                    have HIn := Lib.hid hIn; have HAk := Lib.hid hAk; have Haml := Lib.hid haml; have HX := Lib.hid hx; have Hxw := Lib.hid hxw; have Hbo := Lib.hid hbo; have S3 := Lib.hid s3; have S4 := Lib.hid s4; have S5 := Lib.hid s5; have Hzl := Lib.hid zl; have HLr := Lib.hid hLrW
                    clear hIn hAk haml hx hxw hbo c1 c2 c3 s1 s2 s3 s4 s5 ham hxr hLr hLrW hL hF hnL hnT hj0
                    go_upto_region 37 with (first | (go_at_call 23; refine (HIn.out _ (Below.refl _ wo)).mono ?_; rintro e w5 ⟨rfl, hb⟩; have B5 := Lib.hid hb; clear hb))
                    clear z0 z1 z2 z3 z4 z5 zl
                    obtain ⟨z0, z1, z2, z3, z4, z5, zl⟩ := KC.out w5 ((B5.out.block _ Hzl.out).trans hgo.out)
                    have hFi := fun (W : World) (va : Value) (hW : Below wo.heap.size wo W) (ha : RInts Any W va am) => r11Last Any _ _ va lot am W (RInts.mono (fun _ _ => trivial) (HL3.out W (bt Hbo.out hW))) ha Hll2.out
                    rw [HX.out] at hFi
                    have HFi := Lib.hid hFi
                    clear hFi
                    go_upto_region 40 with (first
                      | (go_at_call 31; refine (HAk.out _ B5.out).mono ?_; rintro e w6 ⟨va, rfl, ho, hb⟩; have B6 := Lib.hid (bt B5.out hb); have B56 := Lib.hid hb; have HO6 := Lib.hid ho; clear hb ho)
                      | (go_at_call 35; refine (HFi.out _ _ B6.out (Own.ints HO6.out Haml.out)).mono ?_; rintro e w6' ⟨rfl, rfl⟩))
                    obtain ⟨aa, ca, rfl⟩ := Own.shape HO6.out
                    obtain ⟨na, hna⟩ : ∃ n, am.length = n := ⟨_, rfl⟩
                    have HNA := Lib.hid hna
                    rw [hna]
                    rw [hna] at HO6
                    clear hna z0 z1 z2 z3 z4 z5 zl hec hed
                    go_wp2
                    go_loopw [27] (fun i wr => ∃ t : Nat, t ≤ ni ∧ i = .int .i64 t ∧ Hid (Below w6.heap.size w6 wr)) (fun i _ => ni - (intOf i).toNat)
                    case atStart => exact ⟨0, Nat.zero_le _, rfl, Lib.hid (Below.refl _ _)⟩
                    case round =>
                      obtain ⟨t, ht, rfl, hbt⟩ := hrel
                      obtain ⟨wt, rfl⟩ : ∃ q : World, q = wr := ⟨_, rfl⟩
                      have hbo6 := bt B6.out hbt.out
                      by_cases hlt4 : t < ni
                      · obtain ⟨z0, z1, z2, z3, z4, z5, zl⟩ := KC.out wt ((hbo6.block _ Hzl.out).trans hgo.out)
                        have hti : t < inn.length := by rw [Hni.out]; exact hlt4
                        obtain ⟨ib, ioff, ic, rfl, -, -, hic, hid⟩ := RSl.at1 (HLr.out wt hbo6) t hti
                        obtain ⟨rfl, hiw⟩ := hid.open
                        obtain ⟨y, hy⟩ : ∃ y, inn[t] = y := ⟨_, rfl⟩
                        have hym : y ∈ inn := hy ▸ List.getElem_mem hti
                        have hyr := HD1.out.rng y hym
                        have hyq := S3.out y hym
                        rw [hy] at hic hiw
                        obtain ⟨yn, rfl⟩ : ∃ n : Nat, y = (n : Int) := ⟨y.toNat, by omega⟩
                        have hyC : yn < xn0 := by omega
                        obtain ⟨hb_, ho_, u3, l3, m3, u4, l4, m4, rfl, -, hbl, k0, k1, k2, kv⟩ := ent_at (V0.out.same (.of_below (bt Hbo.out hbo6))) (j := yn) (by rw [HD1.out.hlen]; exact hyC) (HB1.out yn).1
                        obtain ⟨hn, hhn⟩ : ∃ z : Nat, gI H yn = (z : Int) := ⟨(gI H yn).toNat, by have := (HB1.out yn).1; omega⟩
                        have hnb : hn ≤ 1000000000000000 := by have := (HB1.out yn).2; omega
                        rw [hhn] at kv
                        have hCm := fun (W : World) (v : Value) (hW : Below wt.heap.size wt W) (hv : VRt Any W v (bill (qb : Int))) => r4CmpB Any Any (.agg #[.bool false, .slice u3 l3 m3, .slice u4 l4 m4]) v hn qb W (kv.same (.of_below hW)) hv (by omega) (by have := HQb.out; omega)
                        have hc1 : decide (0 ≤ cmpN hn qb) = false := decide_eq_false (by have := cmpN_dn (show hn < qb by omega); omega)
                        obtain ⟨cn, hcn⟩ : ∃ c, cmpN hn qb = c := ⟨_, rfl⟩
                        simp only [hcn] at hCm hc1
                        have hS43 : ∀ W : World, Below wt.heap.size wt W → (fun W : World => W.cell? ⟨wv.heap.size, 0, none⟩ = some (.slice (some ⟨hb_, ho_, none⟩) xn0 xt0) ∧ W.cell? ⟨ib, ioff + t, none⟩ = some (.int .i64 (yn : Int)) ∧ W.cell? ⟨hb_, ho_ + yn * 3, none⟩ = some (.bool false) ∧ W.cell? ⟨hb_, ho_ + yn * 3 + 1, none⟩ = some (.slice u3 l3 m3) ∧ W.cell? ⟨hb_, ho_ + yn * 3 + 2, none⟩ = some (.slice u4 l4 m4)) W := fun W hW => by
                          have hs := Same.of_below (S := Any) hW
                          exact ⟨hs.cell trivial z0, hs.cell trivial hic, hs.cell trivial k0, hs.cell trivial k1, hs.cell trivial k2⟩
                        have HCm := Lib.hid hCm; have HS43 := Lib.hid hS43
                        clear hCm hS43 hcn hhn hy hym hyr hyq hiw hid hbl kv hti hnb hbo6
                        go_upto_region 43 with fail
                        clear z0 z1 z2 z3 z4 z5 zl k0 k1 k2 hic
                        refine wp_region_L (S := (fun W : World => W.cell? ⟨wv.heap.size, 0, none⟩ = some (.slice (some ⟨hb_, ho_, none⟩) xn0 xt0) ∧ W.cell? ⟨ib, ioff + t, none⟩ = some (.int .i64 (yn : Int)) ∧ W.cell? ⟨hb_, ho_ + yn * 3, none⟩ = some (.bool false) ∧ W.cell? ⟨hb_, ho_ + yn * 3 + 1, none⟩ = some (.slice u3 l3 m3) ∧ W.cell? ⟨hb_, ho_ + yn * 3 + 2, none⟩ = some (.slice u4 l4 m4))) (L := []) (by kernel_rfl) (HS43.out _ (Below.drew (Below.refl _ wt))) (fun hHeld => ?_)
                        refine tk 0 ?_ rfl hHeld ?_ ?_; rotate_left
                        · intro w hSw; (try dsimp only at hSw); go_simp; try (with_reducible rfl)
                        (try simp only [la, lb, lc, ld, lf, lg, lh])
                        refine tk 1 ?_ rfl hHeld ?_ ?_; rotate_left
                        · intro w hSw; (try dsimp only at hSw); go_simp; try (with_reducible rfl)
                        (try simp only [la, lb, lc, ld, lf, lg, lh])
                        refine tk 2 ?_ rfl hHeld ?_ ?_; rotate_left
                        · intro w hSw; (try dsimp only at hSw); go_simp; try (with_reducible rfl)
                        (try simp only [la, lb, lc, ld, lf, lg, lh])
                        refine tk 3 ?_ rfl hHeld ?_ ?_; rotate_left
                        · intro w hSw; (try dsimp only at hSw); go_simp; try (with_reducible rfl)
                        (try simp only [la, lb, lc, ld, lf, lg, lh])
                        refine tk 4 ?_ rfl hHeld ?_ ?_; rotate_left
                        · intro w hSw; (try dsimp only at hSw); go_simp; try (with_reducible rfl)
                        (try simp only [la, lb, lc, ld, lf, lg, lh])
                        refine tk 5 ?_ rfl hHeld ?_ ?_; rotate_left
                        · intro w hSw; (try dsimp only at hSw); go_simp; try (with_reducible rfl)
                        (try simp only [la, lb, lc, ld, lf, lg, lh])
                        refine tk 6 ?_ rfl hHeld ?_ ?_; rotate_left
                        · intro w hSw; (try dsimp only at hSw); go_simp; try (with_reducible rfl)
                        (try simp only [la, lb, lc, ld, lf, lg, lh])
                        refine tk 7 ?_ rfl hHeld ?_ ?_; rotate_left
                        · intro w hSw; (try dsimp only at hSw); go_simp; try (with_reducible rfl)
                        (try simp only [la, lb, lc, ld, lf, lg, lh])
                        refine tk 8 ?_ rfl hHeld ?_ ?_; rotate_left
                        · intro w hSw; (try dsimp only at hSw); go_simp; try (with_reducible rfl)
                        (try simp only [la, lb, lc, ld, lf, lg, lh])
                        refine wpAnyL_one (i := 9) (by kernel_rfl) rfl (fun K hK => ?_)
                        (go_simp; go_at_call 26; refine (HWq.out _).mono ?_; rintro e w7 ⟨a7, c7, b7, e7, rfl, kb, hb⟩; have B7 := Lib.hid (bt (Below.drew (Below.refl _ wt)) hb); have K7 := Lib.hid kb; clear kb hb)
                        refine hK.out _ _ (HS43.out _ B7.out) (fun hHeld => ?_)
                        clear hK K
                        (try simp only [la, lb, lc, ld, lf, lg, lh])
                        refine wpAnyL_one (i := 10) (by kernel_rfl) rfl (fun K hK => ?_)
                        (go_simp; go_at_call 29; refine (HCm.out _ _ B7.out K7.out).mono ?_; rintro e w8 ⟨rfl, hb⟩; have B8 := Lib.hid (bt B7.out hb); clear hb)
                        refine hK.out _ _ (HS43.out _ B8.out) (fun hHeld => ?_)
                        clear hK K
                        (try simp only [la, lb, lc, ld, lf, lg, lh])
                        refine tk 11 ?_ rfl hHeld ?_ ?_; rotate_left
                        · intro w hSw; (try dsimp only at hSw); go_simp; try (with_reducible rfl)
                        (try simp only [la, lb, lc, ld, lf, lg, lh])
                        refine tk 12 ?_ rfl hHeld ?_ ?_; rotate_left
                        · intro w hSw; (try dsimp only at hSw); go_simp; try (with_reducible rfl)
                        (try simp only [la, lb, lc, ld, lf, lg, lh])
                        refine tk 13 ?_ rfl hHeld ?_ ?_; rotate_left
                        · intro w hSw; (try dsimp only at hSw); go_simp; try (with_reducible rfl)
                        (try simp only [la, lb, lc, ld, lf, lg, lh])
                        refine tk 14 ?_ rfl hHeld ?_ ?_; rotate_left
                        · intro w hSw; (try dsimp only at hSw); go_simp; try (with_reducible rfl)
                        (try simp only [la, lb, lc, ld, lf, lg, lh])
                        refine tk 15 ?_ rfl hHeld ?_ ?_; rotate_left
                        · intro w hSw; (try dsimp only at hSw); go_simp; try (with_reducible rfl)
                        (try simp only [la, lb, lc, ld, lf, lg, lh])
                        refine wpAnyL_done (by kernel_rfl) ?_ _
                        go_wp2_with fail
                        exact ⟨⟨t + 1, by omega, by go_num, Lib.hid (bt hbt.out B8.out)⟩, by simp [intOf]; omega⟩
                      · have hte : t = ni := by omega
                        clear hlt4 ht
                        have HI8 := Lib.hid (hIo.out.later hbo6 hzo)
                        have HAm := Lib.hid (SeatI.am (hIo.out.later B5.out hzo) B56.out HO6.out Haml.out (Nat.le_trans hzo B5.out.size) hbt.out)
                        have G8 := Lib.hid ((hbo6.block _ Hzl.out).trans hgo.out)
                        have hz8 := Nat.le_trans hzo hbo6.size
                        have hTi := r11TiedG w3.heap.size _ _ _ T am (xn : Int) wt HI8.out.ti (fun b hb => hb.2.2.2) HAm.out Hxw.out hz8 (by rw [Hntt.out]; omega)
                        have HTi := Lib.hid hTi
                        clear hTi hbo6
                        go_wp2_with (first
                          | (go_at_call 33; refine HTi.out.mono ?_; rintro e w9 ⟨vt9, rfl, k2, k3, k4, k5⟩; have HI9 := Lib.hid (HI8.out.tie k2 k3 k4 k5); have G9 := Lib.hid ((k4.block _ (size_of_box G8.out) (fun e => own_notT HI8.out.ti G8.out e.symm)).trans G8.out); clear k2 k3 k4 k5)
                          | (go_at_call 34; refine (r11Without _ _ inn (xn : Int) _ (Own.rsl HI9.out.le (by rw [Hni.out]; omega)) (by rw [Hni.out]; omega)).mono ?_; rintro e w10 ⟨vl10, rfl, ho, hb⟩; have HI10 := Lib.hid (HI9.out.drop ho hb HI9.out.below.size); have G10 := Lib.hid ((hb.block _ (size_of_box G9.out)).trans G9.out); clear ho hb))
                        exact ⟨⟨0 + 1, by omega, by go_num, Lib.hid (by rw [if_neg (by omega), S4.out, S5.out]; exact HI10.out), G10⟩, by simp [intOf]; omega⟩
                  · have hjo : j2 = no := by omega
                    have hfin : (if j2 = 0 then (⟨L, [], TT⟩ : St) else ⟨inn2, [], T2⟩) = ⟨inn2, [], T2⟩ := by
                      split
                      · rename_i h0
                        obtain ⟨e1, e2⟩ := HD1.out.none (by rw [Hno.out, ← hjo]; exact h0)
                        rw [Hne.out] at e1 e2
                        rw [e1, e2, hL, hF, hTT]
                      · rfl
                    rw [hfin] at hIo
                    clear hfin
                    go_wp2
                    exact ⟨⟨k + 1, by omega, by go_num, by rw [Hll3.out]; congr 1; omega, Lib.hid (by rw [Hi2.out, HT2.out]; exact hIo.out)⟩, by simp [intOf]; omega⟩
      · have hke : k = nr := by omega
        subst hke
        rw [Hrn.out] at hI ⊢
        have hl0 : ((sn - S.el.length : Nat) : Int) = 0 := by rw [Hsel.out, Nat.sub_self]; rfl
        rw [hl0]
        obtain ⟨ai, ci, rfl⟩ := Own.shape hI.out.le
        obtain ⟨at_, ct, rfl⟩ := Own.shape hI.out.ti
        simp only [Hnt.out] at hI ⊢
        have hTi := r11Ties_eq Any Any (.slice b3 nt d3) _ S.ties wv (HTs.out.same (.of_below hb)) (RSl.mono (fun _ _ _ h => h.mono (fun _ _ => trivial)) (fun _ _ => trivial) (Own.rsl hI.out.ti (by rw [Hnt.out]; omega)))
        have HTi := Lib.hid hTi; have Hbv := Lib.hid hb
        clear hTi hb hl0 hlt
        go_wp2_with (first
          | (go_at_call 36; refine HTi.out.mono ?_; rintro e w9 ⟨rfl, hb9⟩; have HB9 := Lib.hid hb9; clear hb9)
          | (go_at_call 11; refine (wakes18 _).mono ?_; rintro e w10 ⟨rfl, hb10⟩; have HB10 := Lib.hid hb10; clear hb10))
        go_ret
        exact ⟨rfl, bt Hb0.out (bt q3.out (bt Hbv.out (bt HB9.out HB10.out)))⟩
  · have hm' : mayG p seats lot = false := by simp [mayG, h0]
    rw [hm', hW0] at hMay
    obtain ⟨cc, hcc⟩ : ∃ x, p.cands = x := ⟨_, rfl⟩
    obtain ⟨kk, hkk⟩ : ∃ x, p.kind = x := ⟨_, rfl⟩
    obtain ⟨nl, hnl⟩ : ∃ x, lot.length = x := ⟨_, rfl⟩
    rw [hcc, hkk, hnl] at hMay
    rw [hcc, hkk] at hW0
    rw [hcc, hkk, hnl]
    have HM := Lib.hid hMay; have Hb0 := Lib.hid hb0; have HW0 := Lib.hid hW0
    clear hMay hb0 hW0 hP hL h h1 hv h0 hm' hg0 hcc hkk hnl
    go_enter Tryz.func7, Tryz.ntmps7
    go_wp2_with (first
      | (go_at_call 22; refine HM.out.mono ?_; rintro e w1 ⟨rfl, hb⟩; rw [← HW0.out] at hb; have hq := bt Hb0.out hb; clear hb)
      | (go_at_call 11; refine (wakes18 _).mono ?_; rintro e w2 ⟨rfl, hb⟩))
    go_ret
    exact ⟨rfl, bt hq hb⟩
end Go.Proofs.YtakcgoehnkognaaGreat

namespace Go.Proofs.YtakcgoehnkognaaGreat
open Go Go.RowKit Go.ChangeShapes Go.WideShapes Go.ChangeAt

set_option maxRecDepth 100000 in
theorem gregoryRounds_lifted (os : Os) (started : os.Started) (H : Type) (enc : TypeId × Value → H) :
    ReturnsInHanded {} Tryz.checked os 7 .any (Rows.gregoryRoundsSpec.pre6 enc Tryz.prog Tryz.f7 Rows.gregoryRoundsRow.domain false) (Rows.gregoryRoundsSpec.post enc Tryz.prog Tryz.f7 false true false false) := by
  refine returnsInHanded_of_change_sized (C := Tryz.checked) Tryz.own started (by kernel_rfl) Tryz.func7
    (ChangeSpec.witness6 (enc := enc) (C := Tryz.checked) false ⟨#[], #[.agg #[.int .i64 0, .int .u8 0, .slice none 0 0], .int .i64 0, .slice none 0 0], []⟩ 8 (by kernel_rfl) (by kernel_rfl) (by kernel_rfl) (by kernel_rfl)) ?_
  intro W base args ds gs before hval0 hW hcnd hsz0 _
  have hval : ∀ (j : Nat) t v, Tryz.f7.params[j]? = some t → args[j]? = some v → Value.okWide Tryz.prog W .any base t v := hval0
  have hsz : (DataW.weightsEach Tryz.prog (Tryz.f7.params.toList ++ Rows.gregoryRoundsSpec.plain.varTypes Tryz.prog) (ds ++ gs)).all (· ≤ reachBytes) = true := hsz0
  have hW' := hW
  obtain ⟨p, q, hA0, hV, rfl, hfz, hnd⟩ := hW
  have hA : DataW.TrodAll enc Tryz.prog W 0 (fun _ => true) true Tryz.f7.params.toList args.toList ds p := hA0
  rw [Tryz.params7] at hA hval hsz
  obtain ⟨v0, vs0, d0, ds0, p0, q0, hargs, rfl, rfl, h0, r0⟩ := trodAll_cons hA
  obtain ⟨v1, vs1, d1, ds1, p1, q1, rfl, rfl, rfl, h1, r1⟩ := trodAll_cons r0
  obtain ⟨v2, vs2, d2, ds2, p2, q2, rfl, rfl, rfl, h2, r2⟩ := trodAll_cons r1
  obtain ⟨rfl, rfl, rfl⟩ := trodAll_nil r2
  obtain rfl : args = #[v0, v1, v2] := by cases args; simp_all
  obtain ⟨rfl, rfl⟩ := trodVars_none hV
  have k0 := h0
  have k1 := h1
  have k2 := h2
  have lt0 : ∀ x ∈ p0, x.block < W.heap.size := by obtain ⟨m, hm⟩ := k0; exact DataW.trod_lt m _ _ _ hm
  have lt1 : ∀ x ∈ p1, x.block < W.heap.size := by obtain ⟨m, hm⟩ := k1; exact DataW.trod_lt m _ _ _ hm
  have lt2 : ∀ x ∈ p2, x.block < W.heap.size := by obtain ⟨m, hm⟩ := k2; exact DataW.trod_lt m _ _ _ hm
  obtain ⟨x0, y0⟩ := arg_prof (hval 0 _ v0 rfl rfl) h0 (weights_at hsz 0 rfl rfl)
  obtain ⟨x1, rfl, e1, e1', wf1⟩ := open_int Tryz.underlying3 (hval 1 _ v1 rfl rfl) h1
  obtain ⟨x2, y2⟩ := arg_ints (hval 2 _ v2 rfl rfl) h2 (weights_at hsz 2 rfl rfl)
  clear hA0 hval0
  refine (law_grounds v0 v2 x0 x1 x2 W y0 wf1 y2).mono fun e W' ⟨he, bel⟩ => ?_
  subst he
  exact ⟨_, rfl, _, _, _, [], _, [], hW', trodAll_mk1 (shut_bool Tryz.underlying4 _), (trodAll_cons_mk (Below.trod Tryz.laidOut (by kernel_rfl) (of_decide_eq_true (by kernel_rfl)) k0 bel lt0) (trodAll_cons_mk (Below.trod Tryz.laidOut (by kernel_rfl) (of_decide_eq_true (by kernel_rfl)) k1 bel lt1) (trodAll_cons_mk (Below.trod Tryz.laidOut (by kernel_rfl) (of_decide_eq_true (by kernel_rfl)) k2 bel lt2) trodAll_mk0))), rfl, bel.frame _, fun h => by cases h⟩

theorem gregoryRounds_named : Tryz.prog.funcNamed Rows.gregoryRoundsRow.func = some 7 := by kernel_rfl
theorem gregoryRounds_facts : joinedFacts Tryz.prog 7 Tryz.f7 Rows.gregoryRoundsSpec Rows.gregoryRoundsRow = true := by kernel_rfl
theorem gregoryRounds_inst : Tryz.f7.isInstance Tryz.prog Rows.gregoryRoundsRow.origin Rows.gregoryRoundsRow.targs := of_decide_eq_true (by kernel_rfl)
theorem gregoryRounds_wrap : Tryz.f7.isWrapper Tryz.prog Rows.gregoryRoundsRow.wrapper Rows.gregoryRoundsRow.mainSum := by
  unfold Func.isWrapper
  rw [if_neg (of_decide_eq_false (by kernel_rfl))]
  exact ⟨rfl, rfl⟩
theorem gregoryRounds_holds : Rows.GregoryRoundsSaid :=
  OpenClaim.holds_of_wide 7 Tryz.f7 rfl rfl rfl rfl rfl rfl rfl ⟨rfl, rfl, rfl, rfl, rfl⟩ rfl rfl rfl rfl rfl gregoryRounds_named Tryz.func7 gregoryRounds_facts
    gregoryRounds_inst gregoryRounds_wrap
    (fun os started H enc _ => gregoryRounds_lifted os started H enc)
#print axioms gregoryRounds_holds
end Go.Proofs.YtakcgoehnkognaaGreat
