/- The law SingleSeats returns true whatever the input, and every argument reads behind the call as it read before. No condition. -/
import Derived.Test.YtogngcbflhdadaaGreatBGMore
import Derived.Test.YtogngcbflhdadaaGreatRows
import Derived.Test.YtogngcbflhdadaaGreatBGSam
import Derived.Deep.RegionHeld3
import Derived.WalkKit
import Derived.ProofKit
import Derived.OpenShut
import Derived.ShutString
import Derived.ChangeOld
import Derived.Below

/- The law SingleSeats: its walk (printed by genseats.py). -/
namespace Go.Proofs.YtogngcbflhdadaaGreat
open Go Go.RowKit Go.Shelf


set_option maxHeartbeats 16000000 in
set_option maxRecDepth 100000 in
theorem law_sseats (u v : Value) (rule : Int) (p : Prof) (seats : Int) (lot : List Int) (w : World) (_ : (Lit.int .i64 rule).wf = true) (h : VProf Any w u p) (_ : (Lit.int .i64 seats).wf = true) (hv : RInts Any w v lot) :
    Calls Tryz.prog 7 #[.int .i64 rule, u, .int .i64 seats, v] w fun e w' => e = .returned (.bool true) ∧ Below w.heap.size w w' := by
  have h1 := h
  obtain ⟨a, m, c, rfl⟩ := h.open
  obtain ⟨a2, c2, rfl, -, -⟩ := RSl.shape hv
  obtain ⟨W0, hW0⟩ : ∃ W0, W0 = w.alloc (.cells #[.int .i64 p.cands, .int .u8 p.kind, .slice a m c] 24) := ⟨_, rfl⟩
  have hb0 : Below w.heap.size w W0 := by rw [hW0]; exact below_new w _
  have hg0 : W0.heap[w.heap.size]? = some (.cells #[.int .i64 p.cands, .int .u8 p.kind, .slice a m c] 24 (0, 0)) := by rw [hW0]; exact box_new w _
  have hP := h1.same (.of_below hb0)
  have hL := hv.same (.of_below hb0)
  have hMay := l11May Any Any rule _ _ p seats lot W0 hP hL
  by_cases hm : mayS rule p seats lot = true
  · obtain ⟨r, rfl, hr, h0⟩ := mayS_true hm
    have hC := counted h0
    rw [hm] at hMay
    obtain ⟨ck, ⟨cc1, cc2⟩, ⟨cs1, cs2⟩, cl, cm, cf, cr, csum⟩ := hC
    obtain ⟨C, hCn⟩ : ∃ C : Nat, p.cands = (C : Int) := ⟨p.cands.toNat, by omega⟩
    obtain ⟨sn, hsn⟩ : ∃ s : Nat, seats = (s : Int) := ⟨seats.toNat, by omega⟩
    subst hsn
    rw [hCn, Int.toNat_natCast] at cl
    rw [hCn] at cc1 cc2 cs2
    have hlo : lot.length ≤ 1000000 := by rw [cl.1]; omega
    have hCt := fun (W : World) (hW : Below W0.heap.size W0 W) (s : Int) => (l11Count r hr Any Any _ _ p s lot W (hP.same (.of_below hW)) (hL.same (.of_below hW)) hlo).mono fun e w' hh => GivesSI.open hh
    have hVs : ∀ s : Nat, singleI r p s lot = 0 → singleV r p s lot = oneO (hadL r p.rows C) (lostS r p.rows) s lot := fun s hs => by rw [singleV, hs, if_pos rfl, hCn]; simp only [Int.toNat_natCast]
    have hV := hVs sn h0
    obtain ⟨had, hhad⟩ : ∃ l, hadL r p.rows C = l := ⟨_, rfl⟩
    have hhl : had.length = C := by rw [← hhad, hadL_fl, fl_length]
    have hgb : ∀ x : Nat, 0 ≤ had.getD x 0 ∧ had.getD x 0 < 9223372036854775808 := fun x => by
      by_cases hx : x < had.length
      · have h3 := hadF_bound (rule := r) (rows := p.rows) (c := C) (x := x) (m := 10) (by omega) fun rr hr => by
          have h1 := cm rr hr
          have h2 := give_bound (x := x) ck (by have := cf rr hr; rw [hCn] at this; exact this) (by omega)
          exact ⟨by omega, h2.1, h2.2⟩
        have e : had.getD x 0 = hadF r p.rows C x := by
          rw [List.getD_eq_getElem?_getD, List.getElem?_eq_getElem hx]
          simp only [← hhad, hadL_fl, Option.getD_some]
          rw [fl_get]
        rw [e]; omega
      · rw [List.getD_eq_getElem?_getD, List.getElem?_eq_none (by omega)]; simp
    obtain ⟨el, hel⟩ : ∃ l, (seatSt had lot sn).elected = l := ⟨_, rfl⟩
    obtain ⟨ts, hts⟩ : ∃ l, (seatSt had lot sn).ties = l := ⟨_, rfl⟩
    have hO : singleV r p sn lot = ⟨el, [⟨had.map whole, whole (lostS r p.rows), el, []⟩], ts⟩ := by rw [hV, oneO, hhad, hel, hts]
    have hell : el.length = sn := by rw [← hel, seat_elected]
    obtain ⟨f1, f2, -⟩ := seat_facts (had := had) (lot := lot) (by rw [hhl]; exact cl) sn (by rw [hhl]; omega)
    rw [hel] at f1 f2
    rw [hhl] at f2
    have hlot2 := lot_order (had := had) (lot := lot) (el := el) (by rw [hhl]; exact cl) f1 (by rw [hhl]; exact f2)
    rw [hhl] at hlot2
    have hwin := fun i k hi hk h1 h2 => order_win (had := had) (lot := lot) (n := sn) (i := i) (k := k) (by rw [hhl]; exact cl) (by rw [hhl]; omega) hi hk h1 h2
    rw [hel] at hwin
    have hCt0 := fun W hW => hCt W hW sn
    simp only [h0, hO] at hCt0
    have hLo := fun (W : World) (hW : Below W0.heap.size W0 W) => hL.same (.of_below hW)
    obtain ⟨kk, hkk⟩ : ∃ x, p.kind = x := ⟨_, rfl⟩
    have hll : lot.length = C := cl.1
    simp only [hCn, hkk, hll] at hMay hCt0 hCt hLo hW0 hg0 ⊢
    rw [hW0] at hMay
    have HM := Lib.hid hMay; have HCt0 := Lib.hid hCt0; have HCt := Lib.hid hCt; have HLo := Lib.hid hLo; have HW0 := Lib.hid hW0; have G0 := Lib.hid hg0; have Hb0 := Lib.hid hb0; have Hgb := Lib.hid hgb; have Hhl := Lib.hid hhl; have Hell := Lib.hid hell; have Hf2 := Lib.hid f2; have Hlot2 := Lib.hid hlot2; have Hwin := Lib.hid hwin; have Hlot := Lib.hid cl; have Hll := Lib.hid hll
    have Hmore : Hid (sn < C → singleI r p ((sn : Int) + 1) lot = 0) := Lib.hid fun hh => more_valid h0 (by rw [hCn]; omega)
    have HV1 : Hid (sn < C → singleV r p ((sn : Int) + 1) lot = ⟨(seatSt had lot (sn + 1)).elected, [⟨had.map whole, whole (lostS r p.rows), (seatSt had lot (sn + 1)).elected, []⟩], (seatSt had lot (sn + 1)).ties⟩) := Lib.hid fun hh => by
      have := hVs (sn + 1) (by have := Hmore.out hh; rwa [Int.natCast_add]) 
      rw [Int.natCast_add] at this
      rw [show ((sn : Int) + 1) = (sn : Int) + ((1 : Nat) : Int) from rfl, this, oneO, hhad]
    have Htk : Hid ((seatSt had lot (sn + 1)).elected.take sn = el) := Lib.hid (by rw [seat_take had lot (sn + 1) (by omega), hel])
    have Htl : Hid ((seatSt had lot (sn + 1)).elected.length = sn + 1) := Lib.hid (seat_elected _ _ _)
    clear hMay hCt0 hCt hLo hW0 hg0 hb0 hgb hhl hell f1 f2 hlot2 hwin cl hll hP hL h h1 hv hm h0 hO hV hVs hel hts hhad hkk ck cf cm cr csum hCn hlo
    have st0 := Lib.hid True.intro
    go_enter Tryz.func7, Tryz.ntmps7
    go_wp2_with (first
      | (have := st2; go_at_call 27; clear st2; refine (l11Had Any _ _ _ C (w2.alloc (.cells #[.slice b21 m21 c21, .slice b22 m22 c22, .slice b23 m23 c23] 32)) (HV2.out.same (.of_below (below_new _ _))) rfl (by rw [List.length_map]; exact Hhl.out)).mono ?_; rintro e w3 ⟨ax, cx, rfl, kx, hb⟩; have C3 := Lib.hid (bel_st (B := w2.heap.size) (w := w2) (by go_grown) hb (by go_size)); have hq0 := bt q0 C3.out; have HX := Lib.hid kx; have GO := Lib.hid (show w3.heap[w2.heap.size]? = some (.cells #[.slice b21 m21 c21, .slice b22 m22 c22, .slice b23 m23 c23] 32 (0, 0)) from lay_at (w := w2) (os := [.cells #[.slice b21 m21 c21, .slice b22 m22 c22, .slice b23 m23 c23] 32]) hb 0 rfl); clear hb kx q0 pa1 pb1 pc1 pl1 pa2 pb2 pc2 pl2; have q0 := hq0; clear hq0; have st3 := Lib.hid True.intro; clear this)
      | (have := st1; go_at_call 30; clear st1; refine (HCt0.out _ q0).mono ?_; rintro e w2 ⟨b21, m21, c21, b22, m22, c22, b23, m23, c23, rfl, kv, hb⟩; have C2 := Lib.hid hb; replace q0 := bt q0 hb; obtain ⟨pa2, pb2, pc2, pl2⟩ := box3 G0.out q0; have HV2 := Lib.hid (kv.mono (fun _ _ => trivial) : VOutc Any w2 (.agg #[.slice b21 m21 c21, .slice b22 m22 c22, .slice b23 m23 c23]) _); clear kv hb; have st2 := Lib.hid True.intro; clear this)
      | (have := st0; go_at_call 25; clear st0; refine HM.out.mono ?_; rintro e w1 ⟨rfl, hb⟩; rw [← HW0.out] at hb; have q0 := hb; obtain ⟨pa1, pb1, pc1, pl1⟩ := box3 G0.out q0; clear hb; have st1 := Lib.hid True.intro; clear this))
    obtain ⟨o0, o1, o2, ol⟩ := box3 GO.out (Below.refl _ w3)
    obtain ⟨y1, y2, y3, ye, q1, q2, q3⟩ := HV2.out
    simp only [Value.agg.injEq, Array.mk.injEq, List.cons.injEq, and_true] at ye
    obtain ⟨rfl, rfl, rfl⟩ := ye
    obtain rfl : m21 = sn := (RSl.len q1).trans Hell.out
    obtain rfl : m22 = 1 := RSl.len q2
    have q1' : RInts Any w3 (.slice b21 m21 c21) el := q1.same (.of_below C3.out)
    have q2' := q2.same (.of_below C3.out)
    obtain ⟨b, off, d0, d1, d2, d3, d4, d5, rfl, -, -, y0, y1, y2, y3, y4, y5, hy⟩ := RSl.at6 q2' 0 (by simp)
    obtain ⟨s0, n0, t0, s2, n2, t2, s3, n3, t3, s4, n4, t4, s5, n5, t5, rfl, rfl, rfl, rfl, rfl, rfl, -, -, hy4, hy5⟩ := hy.open
    simp only [List.getElem_cons_zero] at hy4 hy5
    replace hy4 : RInts Any w3 (.slice s4 n4 t4) el := hy4
    replace hy5 : RInts Any w3 (.slice s5 n5 t5) [] := hy5
    obtain rfl : n5 = 0 := RSl.len hy5
    simp only [Nat.zero_mul, Nat.add_zero] at y4 y5
    have hIn := fun q => ints_eq Any Any _ _ el (ext w3 q) (hy4.same (.of_below (below_ext w3 q))) (q1'.same (.of_below (below_ext w3 q)))
    have HEl := Lib.hid q1'
    have e0 := fun q => cell_ext (w := w3) o0 q
    have e1 := fun q => cell_ext (w := w3) o1 q
    have e4 := fun q => cell_ext (w := w3) y4 q
    have e5 := fun q => cell_ext (w := w3) y5 q
    have HIn := Lib.hid hIn
    have hne : ((m21 : Int) != (m21 : Int)) = false := by simp
    clear hIn hy hy4 hy5 y0 y1 y2 y3 y4 y5 q1 q2 q3 q1' q2' o0 o1 o2 ol st3
    refine wp_region_ext (by kernel_rfl) (by kernel_rfl) ?_
    repeat (go_big_quiet_step ((go_at_call 24; have hh := HIn.out; exact calls_ext (v := .bool true) (hh _))))
    refine wpQuiet_nil ?_
    intro w4 hw'
    have hb4 : Below w3.heap.size w3 w4 := by obtain ⟨q, rfl⟩ := hw'; exact below_ext w3 q
    clear hw' e0 e1 e4 e5 HIn
    have C4 := Lib.hid hb4
    replace q0 := bt q0 hb4
    have hsz := q0.size
    obtain ⟨o0, o1, o2, ol⟩ := box3 GO.out hb4
    have HE4 := Lib.hid (HEl.out.same (.of_below hb4))
    have hE4 : m21 ≤ 1000000 := by omega
    clear hb4
    have HE4c := Lib.hid HE4.out.cut
    go_wp2_with (at_builtin; go_must (refine wpList_appV _ Tryz.infoInt rfl rfl Tryz.underlying25 ⟨rfl, by omega, by omega⟩ (dInt.one _) (dInt.stable (Cut Any w4.heap.size) .i64) w4.heap.size (own_empty w4) rfl (HE4c.out.same (.of_below (below_new w4 _))) rfl (by have := Hell.out; simp; omega) (by simp) ?_); intro a5 n5 c5 w5 hgr hat ho; have kb := (below_new w4 (.cells #[] 3)).grown hgr (by simp) (fun k e => by simp [Value.ownBlock] at e; omega); have HO5 := Lib.hid (ho (fun b hb' hs => hgr.block b hb' (fun e => by have := hs.2; simp [Value.ownBlock] at e; omega))); clear hgr hat ho)
    have H5 := Lib.hid kb
    clear o0 o1 o2 ol kb
    go_loopw [13, 14] (fun ov i wr => ∃ k : Nat, k ≤ C ∧ i = .int .i64 k ∧ Hid (Own w4.heap.size 3 1 (dInt .i64) wr ov (orderL el lot k)) ∧ Hid (Below w4.heap.size w4 wr)) (fun _ i _ => C - (intOf i).toNat)
    case atStart => exact ⟨0, Nat.zero_le _, rfl, Lib.hid (by have := HO5.out; rw [List.nil_append] at this; rw [order_zero]; exact this), H5⟩
    case round =>
      clear HO5 H5
      obtain ⟨k, hk, rfl, hO, hbr⟩ := hrel
      have q0r := bt q0 hbr.out
      obtain ⟨pa, pb, pc, pl⟩ := box3 G0.out q0r
      obtain ⟨o0, o1, o2, ol⟩ := box3 GO.out (bt C4.out hbr.out)
      obtain ⟨aov, cov, rfl⟩ := Own.shape hO.out
      obtain ⟨nov, hnov⟩ : ∃ n, (orderL el lot k).length = n := ⟨_, rfl⟩
      rw [hnov] at hO ⊢
      have hkC : (k : Int) ≤ C := by omega
      by_cases hlt : k < C
      · have hlk : k < lot.length := by rw [Hll.out]; exact hlt
        have hltC : (k : Int) < C := by omega
        obtain ⟨lb, loff, lc, rfl, -, lbl, lcl, lhd⟩ := RSl.at1 (HLo.out wr q0r) k hlk
        obtain ⟨rfl, hwf⟩ := lhd.open
        have hsucc := order_succ (el := el) hlk
        obtain ⟨y, hy⟩ : ∃ y, lot[k] = y := ⟨_, rfl⟩
        rw [hy] at lcl hwf hsucc
        have hIn := fun q => in_b Any _ el y (ext wr q) ((HE4.out.same (.of_below hbr.out)).same (.of_below (below_ext wr q)))
        have e0 := fun q => cell_ext (w := wr) o0 q
        have e1 := fun q => cell_ext (w := wr) lcl q
        have hol : (orderL el lot k).length ≤ 1000000 := by
          have h3 : (orderL el lot k).length ≤ el.length + lot.length := by
            rw [orderL, List.length_append]
            have h4 := List.length_filter_le (fun y => !el.contains y) (lot.take k)
            rw [List.length_take] at h4
            omega
          rw [Hell.out, Hll.out] at h3; omega
        have Hy := Lib.hid hy; have Hol := Lib.hid hol; have Hwf := Lib.hid hwf; have Lcl := Lib.hid lcl
        cases hq : el.contains y with
        | true =>
          have hq2 : hasI el y = true := hq
          rw [hq, if_pos rfl] at hsucc
          simp only [hq2] at hIn
          have HIn := Lib.hid hIn; have Hs := Lib.hid hsucc
          clear hIn hsucc hq hq2 hwf hy hol hnov lhd lcl
          go_wp2
          refine wp_region_ext (by kernel_rfl) (by kernel_rfl) ?_
          repeat (go_big_quiet_step ((go_at_call 32; have hh := HIn.out; exact calls_ext (v := .bool true) (hh _))))
          refine wpQuiet_nil ?_
          intro w7 hw'
          have hb7 : Below wr.heap.size wr w7 := by obtain ⟨q, rfl⟩ := hw'; exact below_ext wr q
          clear hw' e0 e1 HIn
          have HO7 := Lib.hid (Own.below (S := fun _ => False) (dInt.stable _ _) hO.out hb7)
          have hb8 := Lib.hid (hbr.out.trans (hb7.mono hbr.out.size))
          clear hb7
          go_wp2
          exact ⟨⟨k + 1, by omega, by go_num, Lib.hid (by rw [Hs.out]; exact HO7.out), hb8⟩, by simp [intOf]; omega⟩
        | false =>
          have hq2 : hasI el y = false := hq
          rw [hq, if_neg (by simp)] at hsucc
          simp only [hq2] at hIn
          have HIn := Lib.hid hIn; have Hs := Lib.hid hsucc
          clear hIn hsucc hq hq2 hwf hy hol hnov lhd lcl
          go_wp2
          refine wp_region_ext (by kernel_rfl) (by kernel_rfl) ?_
          repeat (go_big_quiet_step ((go_at_call 32; have hh := HIn.out; exact calls_ext (v := .bool false) (hh _))))
          refine wpQuiet_nil ?_
          intro w7 hw'
          have hb7 : Below wr.heap.size wr w7 := by obtain ⟨q, rfl⟩ := hw'; exact below_ext wr q
          clear hw' e0 e1 HIn
          have HO7 := Lib.hid (Own.below (S := fun _ => False) (dInt.stable _ _) hO.out hb7)
          have hb8 := Lib.hid (hbr.out.trans (hb7.mono hbr.out.size))
          have lc7 := (Same.of_below (S := Any) hb7).cell trivial Lcl.out
          have hlt7 : lb < w7.heap.size := by have := hb7.size; omega
          have hz7 := hb8.out.size
          clear hb7
          go_wp2_with (at_builtin; go_must (refine wpList_appI w7 Tryz.infoInt rfl rfl Tryz.underlying25 w4.heap.size HO7.out rfl rfl Hwf.out Hol.out hz7 ?_); intro a9 n9 c9 w9 ho9 hb9; have HO9 := Lib.hid ho9; have HB9 := Lib.hid (hb9 _ _ (Nat.le_refl _) hb8.out); clear ho9 hb9)
          exact ⟨⟨k + 1, by omega, by go_num, Lib.hid (by rw [Hs.out]; exact HO9.out), HB9⟩, by simp [intOf]; omega⟩
      · obtain rfl : k = C := by omega
        have hOr : RInts Any wr (.slice aov nov cov) (orderL el lot lot.length) := by rw [Hll.out]; exact RSl.mono (fun _ _ _ h => h) (fun _ _ => trivial) (Own.rsl hO.out (by have := Hlot2.out.len; rw [Hll.out] at this; omega))
        have hwin := Hwin.out
        have hlot2 := Hlot2.out
        generalize orderL el lot lot.length = ord at hOr hwin hlot2
        obtain rfl : nov = k := (RSl.len hOr).trans hlot2.len
        have hlt := r11Lot Any _ ord nov wr hOr
        rw [lotR_eq (by omega), lotB_iff.2 ⟨by omega, by rw [Int.toNat_natCast]; exact hlot2⟩] at hlt
        have HLt := Lib.hid hlt; have HOr := Lib.hid hOr; have Hw := Lib.hid hwin; have Hl2 := Lib.hid hlot2
        clear hlt hOr hwin hlot2 hnov hO
        have q0w := q0r
        have hb6 := hbr.out
        go_wp2_with (go_at_call 33; refine HLt.out.mono ?_; rintro e w' ⟨rfl, rfl⟩)
        clear pa pb pc pl o0 o1 o2 ol HLt hbr
        obtain ⟨w6, hw6⟩ : ∃ q, q = wr := ⟨_, rfl⟩
        rw [← hw6] at HOr q0r hb6 ⊢
        clear hw6 q0w
        have HQ6 := Lib.hid q0r; have HB6 := Lib.hid hb6
        clear q0r hb6
        go_loopw [15, 16, 17, 18] (fun i _ _ _ wr => ∃ iN : Nat, iN ≤ m21 ∧ i = .int .i64 iN ∧ Hid (Below w6.heap.size w6 wr)) (fun i _ _ _ _ => m21 - (intOf i).toNat)
        case atStart => exact ⟨0, Nat.zero_le _, rfl, Lib.hid (Below.refl _ _)⟩
        case round =>
          obtain ⟨iN, hiN, rfl, hbo⟩ := hrel
          by_cases hlti : iN < m21
          · have hltI : (iN : Int) < m21 := by omega
            obtain ⟨pa, pb, pc, pl⟩ := box3 G0.out (bt HQ6.out hbo.out)
            go_wp2
            clear pa pb pc pl
            obtain ⟨wo, hwo⟩ : ∃ q, q = wr := ⟨_, rfl⟩
            rw [← hwo] at hbo ⊢
            clear hwo
            go_loopw [16, 17, 18] (fun i _ _ wr => ∃ kN : Nat, iN + 1 ≤ kN ∧ kN ≤ nov ∧ i = .int .i64 kN ∧ Hid (Below w6.heap.size w6 wr)) (fun i _ _ _ => nov - (intOf i).toNat)
            case atStart => exact ⟨iN + 1, by omega, by omega, by go_num, hbo⟩
            case round =>
              clear hbo
              obtain ⟨kN, hik, hkn, rfl, hbi⟩ := hrel
              obtain ⟨pa, pb, pc, pl⟩ := box3 G0.out (bt HQ6.out hbi.out)
              have hknI : (kN : Int) ≤ nov := by omega
              by_cases hltk : kN < nov
              · have hltK : (kN : Int) < nov := by omega
                have hzl : ord.length = nov := Hl2.out.len
                obtain ⟨hw1, hw2⟩ := Hw.out iN kN hlti (by omega) (by omega) (by omega)
                obtain ⟨ob, ooff, oc, rfl, -, obl, ocl, ohd⟩ := RSl.at1 HOr.out iN (by omega)
                obtain ⟨ob', ooff', oc', eb, -, -, ocl', ohd'⟩ := RSl.at1 HOr.out kN (by omega)
                simp only [Option.some.injEq, Addr.mk.injEq, and_true] at eb
                obtain ⟨rfl, rfl⟩ := eb
                obtain ⟨rfl, -⟩ := ohd.open
                obtain ⟨rfl, -⟩ := ohd'.open
                have ra := (Hl2.out.all _).1 (List.getElem_mem (l := ord) (n := iN) (by omega))
                have rb := (Hl2.out.all _).1 (List.getElem_mem (l := ord) (n := kN) (by omega))
                obtain ⟨an, han⟩ : ∃ n : Nat, ord[iN] = (n : Int) := ⟨(ord[iN]).toNat, by omega⟩
                obtain ⟨bn, hbn⟩ : ∃ n : Nat, ord[kN] = (n : Int) := ⟨(ord[kN]).toNat, by omega⟩
                rw [han] at ocl ra hw1 hw2
                rw [hbn] at ocl' rb hw1 hw2
                have hxl : (had.map whole).length = nov := by rw [List.length_map]; exact Hhl.out
                obtain ⟨xb, xoff, xc, xd, xe, rfl, -, -, x1, x2, x3, hx⟩ := RSl.at3 HX.out an (by omega)
                obtain ⟨xb', xoff', xc', xd', xe', eb, -, -, z1, z2, z3, hz⟩ := RSl.at3 HX.out bn (by omega)
                simp only [Option.some.injEq, Addr.mk.injEq, and_true] at eb
                obtain ⟨rfl, rfl⟩ := eb
                rw [whole_at] at hx hz
                have g1 := Hgb.out an
                have g2 := Hgb.out bn
                simp only [gI, Int.toNat_natCast] at hw1 hw2
                obtain ⟨ha, hha⟩ : ∃ n : Nat, had.getD an 0 = (n : Int) := ⟨(had.getD an 0).toNat, by omega⟩
                obtain ⟨hb, hhb⟩ : ∃ n : Nat, had.getD bn 0 = (n : Int) := ⟨(had.getD bn 0).toNat, by omega⟩
                rw [hha] at hx g1 hw1 hw2
                rw [hhb] at hz g2 hw1 hw2
                have hw3r := bt C4.out (bt HB6.out hbi.out)
                have vx := (VRt.of hx).same (w' := wr) (.of_below hw3r)
                have vz := (VRt.of hz).same (w' := wr) (.of_below hw3r)
                have hCmp := fun q => ratCmpW Any Any _ _ ha hb (ext wr q) (vx.same (.of_below (below_ext wr q))) (vz.same (.of_below (below_ext wr q))) (by omega) (by omega)
                have hS3 := Same.of_below (S := Any) hw3r
                have hS6 := Same.of_below (S := Any) hbi.out
                obtain ⟨k1, j1, k2, j2, rfl, rfl, rfl, -, -⟩ := hx.open
                obtain ⟨k3, j3, k4, j4, rfl, rfl, rfl, -, -⟩ := hz.open
                have e1 := fun q => cell_ext (w := wr) (hS6.cell trivial ocl) q
                have e2 := fun q => cell_ext (w := wr) (hS6.cell trivial ocl') q
                have e3 := fun q => cell_ext (w := wr) (hS3.cell trivial x1) q
                have e4 := fun q => cell_ext (w := wr) (hS3.cell trivial x2) q
                have e5 := fun q => cell_ext (w := wr) (hS3.cell trivial x3) q
                have e6 := fun q => cell_ext (w := wr) (hS3.cell trivial z1) q
                have e7 := fun q => cell_ext (w := wr) (hS3.cell trivial z2) q
                have e8 := fun q => cell_ext (w := wr) (hS3.cell trivial z3) q
                have ran : (an : Int) < nov := ra.2
                have rbn : (bn : Int) < nov := rb.2
                have Ocl := Lib.hid ocl; have Ocl' := Lib.hid ocl'
                have hle : hb ≤ ha := by omega
                have hfl : ha = hb → firstL lot [(an : Int), (bn : Int)] = an := fun e => hw2 (by omega)
                obtain ⟨cN, hcN⟩ : ∃ c, cmpN ha hb = c := ⟨_, rfl⟩
                have hc01 : (cN = 1 ∧ ha ≠ hb) ∨ (cN = 0 ∧ ha = hb) := by
                  rw [← hcN, cmpN, if_neg (by omega)]
                  by_cases h3 : hb < ha
                  · rw [if_pos h3]; exact .inl ⟨rfl, by omega⟩
                  · rw [if_neg h3]; exact .inr ⟨rfl, by omega⟩
                rw [hcN] at hCmp
                have HCmp := Lib.hid hCmp; have Hfl := Lib.hid hfl
                clear hCmp hfl hw1 hw2 han hbn hha hhb g1 g2 hx hz vx vz x1 x2 x3 z1 z2 z3 ocl ocl' hS3 hS6 hw3r hxl hcN ohd ohd' hle
                go_wp2
                refine wp_region_ext (by kernel_rfl) (by kernel_rfl) ?_
                repeat (go_big_quiet_step ((go_at_call 37; have hh := HCmp.out; exact calls_ext (v := .tuple #[.int .i64 cN, .int .i64 0]) (hh _))))
                refine wpQuiet_nil ?_
                intro w8 hw'
                have hb8 : Below wr.heap.size wr w8 := by obtain ⟨q, rfl⟩ := hw'; exact below_ext wr q
                clear hw' e1 e2 e3 e4 e5 e6 e7 e8 HCmp pa pb pc pl
                have HB8 := Lib.hid (hbi.out.trans (hb8.mono hbi.out.size))
                clear hb8
                rcases hc01 with ⟨rfl, hne⟩ | ⟨rfl, heq⟩
                · clear hne
                  go_wp2
                  refine wp_region_ext (by kernel_rfl) (by kernel_rfl) ?_
                  repeat (go_big_quiet_step (fail))
                  refine wpQuiet_nil ?_
                  intro w9 hw'
                  have hb9 : Below w8.heap.size w8 w9 := by obtain ⟨q, rfl⟩ := hw'; exact below_ext w8 q
                  clear hw'
                  go_wp2
                  exact ⟨⟨kN + 1, by omega, by omega, by go_num, Lib.hid (HB8.out.trans (hb9.mono HB8.out.size))⟩, by simp [intOf]; omega⟩
                · have hF := fun (W : World) (x y : Value) (hx : RInts Any W x lot) (hy : RInts Any W y [(an : Int), (bn : Int)]) => r11First Any Any x y lot [(an : Int), (bn : Int)] W hx hy
                  rw [Hfl.out heq] at hF
                  have HF := Lib.hid hF
                  have hS8 := Same.of_below (S := Any) HB8.out
                  have oc8 := hS8.cell trivial Ocl.out
                  have oc8' := hS8.cell trivial Ocl'.out
                  have obl8 : ob < w8.heap.size := lt_of_cell oc8
                  have hself : ((an : Int) != (an : Int)) = false := by simp
                  have hwa : (Lit.int .i64 (an : Int)).wf = true := WalkArith.wf_i64 (by omega)
                  have hwb : (Lit.int .i64 (bn : Int)).wf = true := WalkArith.wf_i64 (by omega)
                  have HLw := Lib.hid (HLo.out w8 (bt HQ6.out HB8.out))
                  have Hlit := Lib.hid (pairAt w8 hwa hwb)
                  clear hF heq hS8 hwa hwb
                  go_wp2
                  have i1 : (iN : Int) < nov := by omega
                  have i2 : (0 : Int) ≤ iN := by omega
                  have i3 : (0 : Int) ≤ kN := by omega
                  go_region_held3 (fun w' => w'.cell? ⟨ob, ooff + iN, none⟩ = some (.int .i64 an) ∧ w'.cell? ⟨ob, ooff + kN, none⟩ = some (.int .i64 bn)) (go_keep) ((go_at_call 38; refine (HF.out _ _ _ (HLw.out.same (.of_below (Below.drew (below_new w8 _)))) Hlit.out).mono ?_; rintro e w' ⟨rfl, rfl⟩))
                  go_wp2
                  exact ⟨⟨kN + 1, by omega, by omega, by go_num, Lib.hid (Below.drew (HB8.out.alloc (by have := HB8.out.size; simp; omega) _))⟩, by simp [intOf]; omega⟩
              · obtain rfl : kN = nov := by omega
                go_wp2
                exact ⟨⟨iN + 1, by omega, by go_num, hbi⟩, by simp [intOf]; omega⟩
          · obtain rfl : m21 = iN := by omega
            obtain ⟨pa, pb, pc, pl⟩ := box3 G0.out (bt HQ6.out hbo.out)
            have q0o := bt HQ6.out hbo.out
            have hw3o := bt C4.out (bt HB6.out hbo.out)
            have hno : nov ≤ 1000000 := by have := Hlot2.out.len; omega
            clear hlti hiN
            by_cases heq : m21 = nov
            · subst heq
              go_wp2_with (go_at_call 12; refine (wakes11 _).mono ?_; rintro e w7 ⟨rfl, hb⟩)
              go_ret
              exact ⟨rfl, bt Hb0.out (bt q0o hb)⟩
            · have hneq : ((m21 : Int) == (nov : Int)) = false := by simp; omega
              have hlt : m21 < nov := by omega
              have hHC := HCt.out _ q0o ((m21 : Int) + 1)
              rw [Hmore.out hlt, HV1.out hlt] at hHC
              obtain ⟨el1, hel1⟩ : ∃ l, (seatSt had lot (m21 + 1)).elected = l := ⟨_, rfl⟩
              have htk := Htk.out
              have htl := Htl.out
              simp only [hel1] at hHC htk htl
              have Hc := Lib.hid hHC; have Htk1 := Lib.hid htk; have Htl1 := Lib.hid htl; have Hel := Lib.hid (HEl.out.same (.of_below hw3o)); have Hw3 := Lib.hid hw3o
              clear hHC htk htl hel1 HCt HV1 Hmore Htk Htl heq
              go_wp2_with (go_at_call 30; refine Hc.out.mono ?_; rintro e w7 ⟨b71, m71, c71, b72, m72, c72, b73, m73, c73, rfl, kv, hb⟩; have C7 := Lib.hid hb; have HV7 := Lib.hid (kv.mono (fun _ _ => trivial) : VOutc Any w7 (.agg #[.slice b71 m71 c71, .slice b72 m72 c72, .slice b73 m73 c73]) _); clear kv hb)
              obtain ⟨y1, y2, y3, ye, q1, -, -⟩ := HV7.out
              simp only [Value.agg.injEq, Array.mk.injEq, List.cons.injEq, and_true] at ye
              obtain ⟨rfl, rfl, rfl⟩ := ye
              replace q1 : RInts Any w7 (.slice b71 m71 c71) el1 := q1
              obtain rfl : m71 = m21 + 1 := (RSl.len q1).trans Htl1.out
              have hcp := RSl.cap q1
              rw [Htl1.out] at hcp
              have q1t := RSl.take q1 m21 (by rw [Htl1.out]; omega)
              rw [Htk1.out] at q1t
              replace q1t : RInts Any w7 (.slice b71 m21 c71) el := q1t
              obtain ⟨W8, hW8⟩ : ∃ q, q = w7.alloc (.cells #[.slice b71 (m21 + 1) c71, .slice b72 m72 c72, .slice b73 m73 c73] 32) := ⟨_, rfl⟩
              rw [← hW8]
              have hb8 : Below w7.heap.size w7 W8 := by rw [hW8]; exact below_new _ _
              have g8 : W8.heap[w7.heap.size]? = some (.cells #[.slice b71 (m21 + 1) c71, .slice b72 m72 c72, .slice b73 m73 c73] 32 (0, 0)) := by rw [hW8]; exact box_new w7 _
              obtain ⟨n0, n1, n2, nl⟩ := box3 g8 (Below.refl _ _)
              have hq8 := bt C7.out hb8
              obtain ⟨o0, o1, o2, ol⟩ := box3 GO.out (bt Hw3.out hq8)
              have hIn := fun q => ints_eq Any Any _ _ el (ext W8 q) ((q1t.same (.of_below hb8)).same (.of_below (below_ext W8 q))) ((Hel.out.same (.of_below hq8)).same (.of_below (below_ext W8 q)))
              have e0 := fun q => cell_ext (w := W8) o0 q
              have e1 := fun q => cell_ext (w := W8) n0 q
              have hQ8 := Lib.hid (bt q0o hq8)
              have HIn := Lib.hid hIn
              have i1 : (m21 : Int) ≤ c71 := by omega
              have i2 : (0 : Int) ≤ m21 := by omega
              have i3 : m21 ≤ c71 := by omega
              clear hIn hW8 hb8 g8 n0 n1 n2 o0 o1 o2 q1 q1t hq8 pa pb pc pl HQ6 HB6 hbo
              refine wp_region_ext (by kernel_rfl) (by kernel_rfl) ?_
              repeat (go_big_quiet_step (first
                | (go_at_call 24; have hh := HIn.out; exact calls_ext (v := .bool true) (hh _))
                | (go_at_call 12; exact calls_ext (v := .bool true) (wakes11 _))))
              refine wpQuiet_nil ?_
              intro w9 hw'
              have hb9 : Below W8.heap.size W8 w9 := by obtain ⟨q, rfl⟩ := hw'; exact below_ext W8 q
              clear hw'
              go_wp2
              go_ret
              exact ⟨rfl, bt Hb0.out (bt hQ8.out hb9)⟩
  · have hm' : mayS rule p seats lot = false := by simpa using hm
    rw [hm', hW0] at hMay
    obtain ⟨cc, hcc⟩ : ∃ x, p.cands = x := ⟨_, rfl⟩
    obtain ⟨kk, hkk⟩ : ∃ x, p.kind = x := ⟨_, rfl⟩
    obtain ⟨nl, hnl⟩ : ∃ x, lot.length = x := ⟨_, rfl⟩
    rw [hcc, hkk, hnl] at hMay
    rw [hcc, hkk] at hW0
    rw [hcc, hkk, hnl]
    have HM := Lib.hid hMay; have Hb0 := Lib.hid hb0; have HW0 := Lib.hid hW0
    clear hMay hb0 hW0 hP hL h h1 hv hm hm' hg0 hcc hkk hnl
    go_enter Tryz.func7, Tryz.ntmps7
    go_wp2_with (first
      | (go_at_call 25; refine HM.out.mono ?_; rintro e w1 ⟨rfl, hb⟩; rw [← HW0.out] at hb; have hq := bt Hb0.out hb; clear hb)
      | (go_at_call 12; refine (wakes11 _).mono ?_; rintro e w2 ⟨rfl, hb⟩))
    go_ret
    exact ⟨rfl, bt hq hb⟩
end Go.Proofs.YtogngcbflhdadaaGreat

namespace Go.Proofs.YtogngcbflhdadaaGreat
open Go Go.RowKit Go.ChangeShapes Go.WideShapes Go.ChangeAt

set_option maxRecDepth 100000 in
theorem singleSeats_lifted (os : Os) (started : os.Started) (H : Type) (enc : TypeId × Value → H) :
    ReturnsInHanded {} Tryz.checked os 7 .any (Rows.singleSeatsSpec.pre6 enc Tryz.prog Tryz.f7 Rows.singleSeatsRow.domain false) (Rows.singleSeatsSpec.post enc Tryz.prog Tryz.f7 false true false false) := by
  refine returnsInHanded_of_change_sized (C := Tryz.checked) Tryz.own started (by kernel_rfl) Tryz.func7
    (ChangeSpec.witness6 (enc := enc) (C := Tryz.checked) false ⟨#[], #[.int .i64 0, .agg #[.int .i64 0, .int .u8 0, .slice none 0 0], .int .i64 0, .slice none 0 0], []⟩ 8 (by kernel_rfl) (by kernel_rfl) (by kernel_rfl) (by kernel_rfl)) ?_
  intro W base args ds gs before hval0 hW hcnd hsz0 _
  have hval : ∀ (j : Nat) t v, Tryz.f7.params[j]? = some t → args[j]? = some v → Value.okWide Tryz.prog W .any base t v := hval0
  have hsz : (DataW.weightsEach Tryz.prog (Tryz.f7.params.toList ++ Rows.singleSeatsSpec.plain.varTypes Tryz.prog) (ds ++ gs)).all (· ≤ reachBytes) = true := hsz0
  have hW' := hW
  obtain ⟨p, q, hA0, hV, rfl, hfz, hnd⟩ := hW
  have hA : DataW.TrodAll enc Tryz.prog W 0 (fun _ => true) true Tryz.f7.params.toList args.toList ds p := hA0
  rw [Tryz.params7] at hA hval hsz
  obtain ⟨v0, vs0, d0, ds0, p0, q0, hargs, rfl, rfl, h0, r0⟩ := trodAll_cons hA
  obtain ⟨v1, vs1, d1, ds1, p1, q1, rfl, rfl, rfl, h1, r1⟩ := trodAll_cons r0
  obtain ⟨v2, vs2, d2, ds2, p2, q2, rfl, rfl, rfl, h2, r2⟩ := trodAll_cons r1
  obtain ⟨v3, vs3, d3, ds3, p3, q3, rfl, rfl, rfl, h3, r3⟩ := trodAll_cons r2
  obtain ⟨rfl, rfl, rfl⟩ := trodAll_nil r3
  obtain rfl : args = #[v0, v1, v2, v3] := by cases args; simp_all
  obtain ⟨rfl, rfl⟩ := trodVars_none hV
  have k0 := h0
  have k1 := h1
  have k2 := h2
  have k3 := h3
  have lt0 : ∀ x ∈ p0, x.block < W.heap.size := by obtain ⟨m, hm⟩ := k0; exact DataW.trod_lt m _ _ _ hm
  have lt1 : ∀ x ∈ p1, x.block < W.heap.size := by obtain ⟨m, hm⟩ := k1; exact DataW.trod_lt m _ _ _ hm
  have lt2 : ∀ x ∈ p2, x.block < W.heap.size := by obtain ⟨m, hm⟩ := k2; exact DataW.trod_lt m _ _ _ hm
  have lt3 : ∀ x ∈ p3, x.block < W.heap.size := by obtain ⟨m, hm⟩ := k3; exact DataW.trod_lt m _ _ _ hm
  obtain ⟨x0, rfl, e0, e0', wf0⟩ := open_int Tryz.underlying3 (hval 0 _ v0 rfl rfl) h0
  obtain ⟨x1, y1⟩ := arg_prof (hval 1 _ v1 rfl rfl) h1 (weights_at hsz 1 rfl rfl)
  obtain ⟨x2, rfl, e2, e2', wf2⟩ := open_int Tryz.underlying3 (hval 2 _ v2 rfl rfl) h2
  obtain ⟨x3, y3⟩ := arg_ints (hval 3 _ v3 rfl rfl) h3 (weights_at hsz 3 rfl rfl)
  clear hA0 hval0
  refine (law_sseats v1 v3 x0 x1 x2 x3 W wf0 y1 wf2 y3).mono fun e W' ⟨he, bel⟩ => ?_
  subst he
  exact ⟨_, rfl, _, _, _, [], _, [], hW', trodAll_mk1 (shut_bool Tryz.underlying4 _), (trodAll_cons_mk (Below.trod Tryz.laidOut (by kernel_rfl) (of_decide_eq_true (by kernel_rfl)) k0 bel lt0) (trodAll_cons_mk (Below.trod Tryz.laidOut (by kernel_rfl) (of_decide_eq_true (by kernel_rfl)) k1 bel lt1) (trodAll_cons_mk (Below.trod Tryz.laidOut (by kernel_rfl) (of_decide_eq_true (by kernel_rfl)) k2 bel lt2) (trodAll_cons_mk (Below.trod Tryz.laidOut (by kernel_rfl) (of_decide_eq_true (by kernel_rfl)) k3 bel lt3) trodAll_mk0)))), rfl, bel.frame _, fun h => by cases h⟩

theorem singleSeats_named : Tryz.prog.funcNamed Rows.singleSeatsRow.func = some 7 := by kernel_rfl
theorem singleSeats_facts : joinedFacts Tryz.prog 7 Tryz.f7 Rows.singleSeatsSpec Rows.singleSeatsRow = true := by kernel_rfl
theorem singleSeats_inst : Tryz.f7.isInstance Tryz.prog Rows.singleSeatsRow.origin Rows.singleSeatsRow.targs := of_decide_eq_true (by kernel_rfl)
theorem singleSeats_wrap : Tryz.f7.isWrapper Tryz.prog Rows.singleSeatsRow.wrapper Rows.singleSeatsRow.mainSum := by
  unfold Func.isWrapper
  rw [if_neg (of_decide_eq_false (by kernel_rfl))]
  exact ⟨rfl, rfl⟩
theorem singleSeats_holds : Rows.SingleSeatsSaid :=
  OpenClaim.holds_of_wide 7 Tryz.f7 rfl rfl rfl rfl rfl rfl rfl ⟨rfl, rfl, rfl, rfl, rfl⟩ rfl rfl rfl rfl rfl singleSeats_named Tryz.func7 singleSeats_facts
    singleSeats_inst singleSeats_wrap
    (fun os started H enc _ => singleSeats_lifted os started H enc)
#print axioms singleSeats_holds
end Go.Proofs.YtogngcbflhdadaaGreat
