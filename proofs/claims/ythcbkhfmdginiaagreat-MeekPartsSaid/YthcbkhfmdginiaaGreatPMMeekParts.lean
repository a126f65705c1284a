/- The law MeekParts returns true whatever the input, and every argument reads behind the call as it read before. No condition. -/
import Derived.Test.YthcbkhfmdginiaaGreatPDelta
import Derived.Test.YthcbkhfmdginiaaGreatRows
import Derived.WalkKit
import Derived.ProofKit
import Derived.OpenShut
import Derived.ShutString
import Derived.ChangeOld
import Derived.Below

namespace Go.Proofs.YthcbkhfmdginiaaGreat
open Go Go.RowKit Go.Shelf Limb

theorem part_at {K : List Int} : ∀ {l : List Int} {r : Int} {k : Nat} (h : k < l.length), l.Nodup → partM K l[k] r l = upU (restM K r (l.take k)) (gI K l[k])
 | c :: l, r, 0, _, hn => by
  have h0 : c ∉ l := (List.nodup_cons.1 hn).1
  show (if c = c then upU r (gI K c) else 0) + partM K c (r - upU r (gI K c)) l = upU r (gI K c)
  rw [if_pos rfl, part_out h0, Int.add_zero]
 | c :: l, r, k + 1, h, hn => by
  have hk : k < l.length := by simpa using h
  have h0 : c ∉ l := (List.nodup_cons.1 hn).1
  have hne : ¬ c = l[k] := fun e => h0 (e ▸ List.getElem_mem hk)
  show (if c = l[k] then upU r (gI K c) else 0) + partM K l[k] (r - upU r (gI K c)) l = upU (restM K (r - upU r (gI K c)) (l.take k)) (gI K l[k])
  rw [if_neg hne, Int.zero_add]
  exact part_at hk (List.nodup_cons.1 hn).2
theorem up_tight {R k m : Int} (hm : m = R * k) (h0 : 0 ≤ m) : m ≤ upU R k * 1000000000 ∧ 0 ≤ upU R k ∧ (0 < upU R k → (upU R k - 1) * 1000000000 < m) := by
 unfold upU
 rw [← hm]
 omega
set_option maxHeartbeats 16000000 in
set_option maxRecDepth 100000 in
set_option linter.unusedSimpArgs false in
theorem law_mparts (u v : Value) (marks K : List Int) (w : World) (hm : RInts Any w u marks) (hv : RInts Any w v K) :
  Calls Tryz.prog 8 #[u, v] w fun e w' => e = .returned (.bool true) ∧ Below w.heap.size w w' := by
 have hm0 := hm
 have hv0 := hv
 obtain ⟨a, cap, rfl, hm15, hml⟩ := RSl.shape hm
 obtain ⟨a2, cap2, rfl, -, hvl⟩ := RSl.shape hv
 have hC := fun (W : World) (hW : Below w.heap.size w W) => r08Check Any (.agg #[.int .u8 1, .slice a marks.length cap]) ⟨1, marks⟩ K.length W ⟨_, _, rfl, _, rfl, show (0 : Int) ≤ 1 by decide, show (1 : Int) ≤ 255 by decide, hm.same (.of_below hW)⟩
 by_cases hck : checkB ⟨1, marks⟩ K.length = 0
 ·obtain ⟨hC10, hnd, hrg⟩ := check_rank hck
  have hml10 : marks.length ≤ 10 := by have := nodup_len hnd hrg; omega
  rw [hck] at hC
  obtain ⟨n, hn⟩ : ∃ n, marks.length = n := ⟨_, rfl⟩
  obtain ⟨C, hCl⟩ : ∃ n, K.length = n := ⟨_, rfl⟩
  have hPa := fun (W : World) (hW : Below w.heap.size w W) => meePartsC Any Any _ _ marks K W (hm.same (.of_below hW)) (hv.same (.of_below hW)) (by omega)
  rw [hn] at hm hC hPa hml10
  rw [hCl] at hv hC hPa hC10
  simp only [hCl] at hrg
  rw [hn, hCl]
  have HC := Lib.hid hC; have HPa := Lib.hid hPa; have Hm := Lib.hid hm; have Hv := Lib.hid hv; have Hn := Lib.hid hn; have HCl := Lib.hid hCl; have Hnd := Lib.hid hnd; have Hrg := Lib.hid hrg; have Hck := Lib.hid hck
  clear hC hPa hm hv hn hCl hnd hrg hck hm0 hv0 hml hvl hm15
  go_enter Tryz.func8, Tryz.ntmps8
  go_wp2_with (go_at_call 40; refine (HC.out _ (Below.refl _ w)).mono ?_; rintro e w1 ⟨rfl, hb⟩; have B1 := Lib.hid hb; clear hb)
  go_loopw [5] (fun i wr => ∃ k : Nat, k ≤ C ∧ i = .int .i64 k ∧ Hid (Below w.heap.size w wr ∧ ∀ x ∈ K.take k, 0 ≤ x ∧ x ≤ 1000000000)) (fun i _ => C - (intOf i).toNat)
  case atStart => exact ⟨0, Nat.zero_le _, rfl, Lib.hid ⟨B1.out, by simp⟩⟩
  case round =>
   obtain ⟨k, hk, rfl, hI⟩ := hrel
   by_cases hlt : k < C
   ·have hlr : k < K.length := by rw [HCl.out]; exact hlt
    obtain ⟨b2, off2, c2, rfl, -, hbw2, hc2, hx2⟩ := RSl.at1 (Hv.out.same (.of_below hI.out.1)) k hlr
    obtain ⟨rfl, hxw⟩ := hx2.open
    have hst : K.take (k + 1) = K.take k ++ [K[k]] := List.take_succ_eq_append_getElem hlr
    obtain ⟨y, hy⟩ : ∃ y, K[k] = y := ⟨_, rfl⟩
    rw [hy] at hc2 hst
    have Hst := Lib.hid hst
    have HI := hI
    clear hst hy hx2 hxw hbw2 hlr hI
    by_cases h1 : y < 0
    ·go_wp2_with (go_at_call 27; refine (wakes19 _).mono ?_; rintro e w2 ⟨rfl, hb⟩; have B2 := Lib.hid (bt HI.out.1 hb); clear hb)
     go_ret
     exact ⟨rfl, B2.out⟩
    ·by_cases h2 : 1000000000 < y
     ·go_wp2_with (go_at_call 27; refine (wakes19 _).mono ?_; rintro e w2 ⟨rfl, hb⟩; have B2 := Lib.hid (bt HI.out.1 hb); clear hb)
      go_ret
      exact ⟨rfl, B2.out⟩
     ·go_wp2
      refine ⟨⟨k + 1, by omega, by go_num, Lib.hid ⟨HI.out.1, fun x hx => ?_⟩⟩, by simp [intOf]; omega⟩
      rw [Hst.out, List.mem_append] at hx
      rcases hx with hx | hx
      ·exact HI.out.2 x hx
      ·rw [List.mem_singleton.1 hx]; omega
   ·obtain rfl : k = C := by omega
    have hall : ∀ x ∈ K, 0 ≤ x ∧ x ≤ 1000000000 := by
     have := hI.out.2
     rwa [List.take_of_length_le (by rw [HCl.out]; exact Nat.le_refl _)] at this
    have hkb : keepsB K = true := by
     rw [keepsB, List.all_eq_true]
     intro x hx
     have := hall x hx
     simp [this.1, this.2]
    have hKO := (keepsB_ok hkb).2
    have hpi : partsMI marks K = 0 := by rw [partsMI, if_pos ⟨Hck.out, hkb⟩]
    obtain ⟨wl, hwl⟩ : ∃ q, q = wr := ⟨_, rfl⟩
    rw [← hwl] at hI ⊢
    have hP := HPa.out wl hI.out.1
    unfold GivesPM at hP
    have hpl : partsML marks K = fl k fun x => partM K x 1000000000 marks := by rw [partsML, if_pos hpi, HCl.out]
    have hpr : partsMR marks K = restM K 1000000000 marks := by rw [partsMR, if_pos hpi]
    rw [hpi, hpl, hpr] at hP
    obtain ⟨rr, hrr⟩ : ∃ r, restM K 1000000000 marks = r := ⟨_, rfl⟩
    have hr0 : 0 ≤ rr := by rw [← hrr]; exact (rest_bound hKO (by omega)).1
    simp only [hrr] at hP
    have HP := Lib.hid hP; have HI := Lib.hid hI.out.1; have HKO := Lib.hid hKO; have Hrr := Lib.hid hrr
    clear hP hI hall hkb hpi hpl hpr hKO hrr hwl HPa
    go_upto_region 9 with (go_at_call 33; refine HP.out.mono ?_; rintro e w2 ⟨al, nl, cl, rfl, hL, hb⟩; have B2 := Lib.hid (bt HI.out hb); have HL := Lib.hid hL; clear hb hL)
    obtain rfl : nl = k := by have := RSl.len HL.out; rw [qae] at this; exact this
    have HL2 : Hid (RInts Any w2 (.slice al nl cl) (fl nl fun x => partM K x 1000000000 marks)) := Lib.hid (RSl.mono (fun _ _ _ h => h) (fun _ _ => trivial) HL.out)
    clear HL HP
    go_wp2
    go_loopw [9, 10] (fun r i wr => ∃ j : Nat, j ≤ n ∧ i = .int .i64 j ∧ Hid (r = .int .i64 (restM K 1000000000 (marks.take j))) ∧ Hid (Below w2.heap.size w2 wr)) (fun _ i _ => n - (intOf i).toNat)
    case atStart => exact ⟨0, Nat.zero_le _, rfl, Lib.hid rfl, Lib.hid (Below.refl _ _)⟩
    case round =>
     obtain ⟨j, hj, rfl, hre, hb⟩ := hrel
     have hrb := rest_bound HKO.out (l := marks.take j) (r := 1000000000) (by omega)
     by_cases hlt : j < n
     ·have hlr : j < marks.length := by rw [Hn.out]; exact hlt
      have hbw := bt B2.out hb.out
      obtain ⟨b3, off3, c3, rfl, -, -, hc3, hx3⟩ := RSl.at1 (Hm.out.same (.of_below hbw)) j hlr
      obtain ⟨rfl, -⟩ := hx3.open
      obtain ⟨x0, x1⟩ := Hrg.out _ (List.getElem_mem hlr)
      have hpa := part_at (K := K) (r := 1000000000) hlr Hnd.out
      have hst : restM K 1000000000 (marks.take (j + 1)) = restM K 1000000000 (marks.take j) - upU (restM K 1000000000 (marks.take j)) (gI K marks[j]) := by rw [List.take_succ_eq_append_getElem hlr, rest_snoc]
      obtain ⟨xn, hxn⟩ : ∃ xn : Nat, marks[j] = (xn : Int) := ⟨marks[j].toNat, by omega⟩
      rw [hxn] at hc3 hpa hst x1
      have hxC : xn < nl := by omega
      obtain ⟨b4, off4, c4, rfl, -, -, hc4, hx4⟩ := RSl.at1 (HL2.out.same (.of_below hb.out)) xn (by rw [qae]; exact hxC)
      obtain ⟨rfl, -⟩ := hx4.open
      have hge : (fl nl fun x => partM K x 1000000000 marks)[xn]'(by rw [qae]; exact hxC) = partM K xn 1000000000 marks := by
       have := gI_fl (f := fun x => partM K x 1000000000 marks) hxC
       rwa [gI_at (by rw [qae]; exact hxC)] at this
      rw [hge, hpa] at hc4
      obtain ⟨b5, off5, c5, rfl, -, -, hc5, hx5⟩ := RSl.at1 (Hv.out.same (.of_below hbw)) xn (by rw [HCl.out]; exact hxC)
      obtain ⟨rfl, -⟩ := hx5.open
      have hgk : gI K (xn : Int) = K[xn]'(by rw [HCl.out]; exact hxC) := gI_at (by rw [HCl.out]; exact hxC)
      have hkx := HKO.out (xn : Int)
      rw [← hgk] at hc5
      obtain ⟨R, hR⟩ : ∃ R, restM K 1000000000 (marks.take j) = R := ⟨_, rfl⟩
      obtain ⟨q, hq⟩ : ∃ q, gI K (xn : Int) = q := ⟨_, rfl⟩
      rw [hR, hq] at hc4 hst
      rw [hR] at hre hrb
      rw [hq] at hc5 hkx
      obtain rfl := hre.out
      have hm0 : 0 ≤ R * q := Int.mul_nonneg hrb.1 hkx.1
      have hm1 : R * q ≤ 1000000000 * 1000000000 := Int.mul_le_mul hrb.2 hkx.2 hkx.1 (by omega)
      obtain ⟨m, hm⟩ : ∃ m, R * q = m := ⟨_, rfl⟩
      obtain ⟨t1, t2, t3⟩ := up_tight hm.symm (by omega)
      have t4 := (up_bound hrb.1 hkx).2
      have t5 : q = 1000000000 → upU R q = R := fun e => by rw [e]; exact up_unit
      obtain ⟨l, hl⟩ : ∃ l, upU R q = l := ⟨_, rfl⟩
      rw [hl] at hc4 hst t1 t2 t3 t4 t5
      rw [hm] at hm0 hm1
      have wm : IntKind.i64.wrap (R * q) = m := by rw [hm, IntKind.wrap_i64]; omega
      have wl : IntKind.i64.wrap (l * 1000000000) = l * 1000000000 := by rw [IntKind.wrap_i64]; omega
      have w1' : IntKind.i64.wrap (l - 1) = l - 1 := by rw [IntKind.wrap_i64]; omega
      have w2' : IntKind.i64.wrap ((l - 1) * 1000000000) = (l - 1) * 1000000000 := by rw [IntKind.wrap_i64]; omega
      have w3' : IntKind.i64.wrap (R - l) = R - l := by rw [IntKind.wrap_i64]; omega
      have e3 := fun p => qa8 (w := wr) hc3 p
      have e4 := fun p => qa8 (w := wr) hc4 p
      have e5 := fun p => qa8 (w := wr) hc5 p
      have d1 : decide (l < 0) = false := decide_eq_false (by omega)
      have d2 : decide (l * 1000000000 < m) = false := decide_eq_false (by omega)
      have d1' : ¬ l < 0 := by omega
      have d2' : ¬ l * 1000000000 < m := by omega
      have Hst := Lib.hid hst; have Hb := hb; have Hq := Lib.hid t5
      have hd3 : (0 < l ∧ ¬ m ≤ (l - 1) * 1000000000) ∨ ¬ 0 < l := by
       by_cases h : 0 < l
       ·exact .inl ⟨h, by have := t3 h; omega⟩
       ·exact .inr h
      clear hst hm t5 hl hR hq hre hrb hkx hpa hxn hx3 hx4 hx5 hge hgk hlr hbw x0 x1 hb t1 t2 t3 t4
      rcases hd3 with ⟨d3, d4⟩ | d3
      all_goals
       first
       | (have d5 : decide (0 < l) = true := decide_eq_true d3; have d6 : decide (m ≤ (l - 1) * 1000000000) = false := decide_eq_false d4)
       | (have d5 : decide (0 < l) = false := decide_eq_false d3)
       go_upto_region 16 with fail
       refine qa3 (by kernel_rfl) (by kernel_rfl) ?_
       repeat (go_big_quiet_step (fail))
       refine wpQuiet_nil ?_
       intro w7 hw'
       have hb7 : Below wr.heap.size wr w7 := by obtain ⟨p, rfl⟩ := hw'; exact qa4 wr p
       obtain ⟨p7, hp7⟩ := hw'
       have f3 := e3 p7; have f4 := e4 p7; have f5 := e5 p7
       rw [← hp7] at f3 f4 f5
       have Hb8 := Lib.hid (bt Hb.out hb7)
       clear hp7 e3 e4 e5 hc3 hc4 hc5 hb7
       by_cases hq1 : q = 1000000000
       ·have hRl := Hq.out hq1
        subst hq1
        have hz : (R - l != 0) = false := by simp; omega
        have hz2 : R - l = 0 := by omega
        go_wp2
        exact ⟨⟨j + 1, by omega, by go_num, Lib.hid (by rw [Hst.out, hz2]), Hb8⟩, by simp [intOf]; omega⟩
       ·have hz : (q == 1000000000) = false := by simp [hq1]
        go_wp2
        exact ⟨⟨j + 1, by omega, by go_num, Lib.hid (by rw [Hst.out]), Hb8⟩, by simp [intOf]; omega⟩
     ·have hje : n = j := by omega
      subst hje
      rw [List.take_of_length_le (by rw [Hn.out]; exact Nat.le_refl _), Hrr.out] at hre
      obtain rfl := hre.out
      obtain ⟨w3, hw3⟩ : ∃ q, q = wr := ⟨_, rfl⟩
      rw [← hw3] at hb ⊢
      have B3 := Lib.hid (bt B2.out hb.out); have HL3 := Lib.hid (HL2.out.same (.of_below hb.out))
      clear hre hrb hb hw3 hlt hj
      go_wp2
      go_loopw [12] (fun i wr => ∃ j : Nat, j ≤ nl ∧ i = .int .i64 j ∧ Hid (Below w3.heap.size w3 wr)) (fun i _ => nl - (intOf i).toNat)
      case atStart => exact ⟨0, Nat.zero_le _, rfl, Lib.hid (Below.refl _ _)⟩
      case round =>
       obtain ⟨j, hj, rfl, hb⟩ := hrel
       by_cases hlt : j < nl
       ·obtain ⟨b4, off4, c4, rfl, -, -, hc4, hx4⟩ := RSl.at1 (HL3.out.same (.of_below hb.out)) j (by rw [qae]; exact hlt)
        obtain ⟨rfl, -⟩ := hx4.open
        have hge : (fl nl fun x => partM K x 1000000000 marks)[j]'(by rw [qae]; exact hlt) = partM K j 1000000000 marks := by
         have := gI_fl (f := fun x => partM K x 1000000000 marks) hlt
         rwa [gI_at (by rw [qae]; exact hlt)] at this
        rw [hge] at hc4
        have hIn := fun (W : World) (hW : Below wr.heap.size wr W) => in_c Any _ marks (j : Int) W (Hm.out.same (.of_below (bt B3.out (bt hb.out hW))))
        obtain ⟨y, hy⟩ : ∃ y, partM K j 1000000000 marks = y := ⟨_, rfl⟩
        have hyn : ¬ y = 0 → hasI marks j = true := fun h => by
         rw [hasI_mem]
         rcases Classical.em ((j : Int) ∈ marks) with h1 | h1
         ·exact h1
         ·exact absurd (by rw [← hy]; exact part_out h1) h
        rw [hy] at hc4
        have HIn := Lib.hid hIn; have Hyn := Lib.hid hyn; have Hb := hb
        clear hIn hyn hy hge hx4 hb
        by_cases hy0 : y = 0
        ·subst hy0
         go_wp2
         exact ⟨⟨j + 1, by omega, by go_num, Hb⟩, by simp [intOf]; omega⟩
        ·have hz : (y != 0) = true := by simp [hy0]
         have hh := Hyn.out hy0
         go_wp2_with (go_at_call 39; refine (HIn.out _ (Below.refl _ wr)).mono ?_; rw [hh]; rintro e w8 ⟨rfl, hb⟩; have B8 := Lib.hid (bt Hb.out hb); clear hb)
         exact ⟨⟨j + 1, by omega, by go_num, B8⟩, by simp [intOf]; omega⟩
       ·have B4 := Lib.hid (bt B3.out hb.out)
        have hr1 : ¬ rr < 0 := by omega
        clear hb
        go_wp2_with (go_at_call 27; refine (wakes19 _).mono ?_; rintro e w9 ⟨rfl, hb⟩; have B9 := Lib.hid (bt B4.out hb); clear hb)
        go_ret
        exact ⟨rfl, B9.out⟩
 ·obtain ⟨q, hq⟩ : ∃ q, checkB ⟨1, marks⟩ K.length = q := ⟨_, rfl⟩
  rw [hq] at hck hC
  obtain ⟨n, hn⟩ : ∃ n, marks.length = n := ⟨_, rfl⟩
  obtain ⟨C, hCl⟩ : ∃ n, K.length = n := ⟨_, rfl⟩
  rw [hn, hCl] at hC
  rw [hn, hCl]
  have hq2 : (q != 0) = true := by simp [hck]
  have HC := Lib.hid hC
  clear hC hm hv hm0 hv0 hml hvl hm15 hn hCl hq
  go_enter Tryz.func8, Tryz.ntmps8
  go_wp2_with (first
   | (go_at_call 40; refine (HC.out _ (Below.refl _ w)).mono ?_; rintro e w1 ⟨rfl, hb⟩; have B1 := Lib.hid hb; clear hb)
   | (go_at_call 27; refine (wakes19 _).mono ?_; rintro e w2 ⟨rfl, hb⟩; have B2 := Lib.hid (bt B1.out hb); clear hb))
  go_ret
  exact ⟨rfl, B2.out⟩
end Go.Proofs.YthcbkhfmdginiaaGreat

namespace Go.Proofs.YthcbkhfmdginiaaGreat
open Go Go.RowKit Go.ChangeShapes Go.WideShapes Go.ChangeAt

set_option maxRecDepth 100000 in
theorem meekParts_lifted (os : Os) (started : os.Started) (H : Type) (enc : TypeId × Value → H) :
  ReturnsInHanded {} Tryz.checked os 8 .any (Rows.meekPartsSpec.pre6 enc Tryz.prog Tryz.f8 Rows.meekPartsRow.domain false) (Rows.meekPartsSpec.post enc Tryz.prog Tryz.f8 false true false false) := by
 refine returnsInHanded_of_change_sized (C := Tryz.checked) Tryz.own started (by kernel_rfl) Tryz.func8
  (ChangeSpec.witness6 (enc := enc) (C := Tryz.checked) false ⟨#[], #[.slice none 0 0, .slice none 0 0], []⟩ 8 (by kernel_rfl) (by kernel_rfl) (by kernel_rfl) (by kernel_rfl)) ?_
 intro W base args ds gs before hval0 hW hcnd hsz0 _
 have hval : ∀ (j : Nat) t v, Tryz.f8.params[j]? = some t → args[j]? = some v → Value.okWide Tryz.prog W .any base t v := hval0
 have hsz : (DataW.weightsEach Tryz.prog (Tryz.f8.params.toList ++ Rows.meekPartsSpec.plain.varTypes Tryz.prog) (ds ++ gs)).all (· ≤ reachBytes) = true := hsz0
 have hW' := hW
 obtain ⟨p, q, hA0, hV, rfl, hfz, hnd⟩ := hW
 have hA : DataW.TrodAll enc Tryz.prog W 0 (fun _ => true) true Tryz.f8.params.toList args.toList ds p := hA0
 rw [Tryz.params8] at hA hval hsz
 obtain ⟨v0, vs0, d0, ds0, p0, q0, hargs, rfl, rfl, h0, r0⟩ := trodAll_cons hA
 obtain ⟨v1, vs1, d1, ds1, p1, q1, rfl, rfl, rfl, h1, r1⟩ := trodAll_cons r0
 obtain ⟨rfl, rfl, rfl⟩ := trodAll_nil r1
 obtain rfl : args = #[v0, v1] := by cases args; simp_all
 obtain ⟨rfl, rfl⟩ := trodVars_none hV
 have k0 := h0
 have k1 := h1
 have lt0 : ∀ x ∈ p0, x.block < W.heap.size := by obtain ⟨m, hm⟩ := k0; exact DataW.trod_lt m _ _ _ hm
 have lt1 : ∀ x ∈ p1, x.block < W.heap.size := by obtain ⟨m, hm⟩ := k1; exact DataW.trod_lt m _ _ _ hm
 obtain ⟨x0, y0⟩ := arg_ints (hval 0 _ v0 rfl rfl) h0 (weights_at hsz 0 rfl rfl)
 obtain ⟨x1, y1⟩ := arg_ints (hval 1 _ v1 rfl rfl) h1 (weights_at hsz 1 rfl rfl)
 clear hA0 hval0
 refine (law_mparts v0 v1 x0 x1 W y0 y1).mono fun e W' ⟨he, bel⟩ => ?_
 subst he
 exact ⟨_, rfl, _, _, _, [], _, [], hW', trodAll_mk1 (shut_bool Tryz.underlying4 _), (trodAll_cons_mk (Below.trod Tryz.laidOut (by kernel_rfl) (of_decide_eq_true (by kernel_rfl)) k0 bel lt0) (trodAll_cons_mk (Below.trod Tryz.laidOut (by kernel_rfl) (of_decide_eq_true (by kernel_rfl)) k1 bel lt1) trodAll_mk0)), rfl, bel.frame _, fun h => by cases h⟩

theorem meekParts_named : Tryz.prog.funcNamed Rows.meekPartsRow.func = some 8 := by kernel_rfl
theorem meekParts_facts : joinedFacts Tryz.prog 8 Tryz.f8 Rows.meekPartsSpec Rows.meekPartsRow = true := by kernel_rfl
theorem meekParts_inst : Tryz.f8.isInstance Tryz.prog Rows.meekPartsRow.origin Rows.meekPartsRow.targs := of_decide_eq_true (by kernel_rfl)
theorem meekParts_wrap : Tryz.f8.isWrapper Tryz.prog Rows.meekPartsRow.wrapper Rows.meekPartsRow.mainSum := by
 unfold Func.isWrapper
 rw [if_neg (of_decide_eq_false (by kernel_rfl))]
 exact ⟨rfl, rfl⟩
theorem meekParts_holds : Rows.MeekPartsSaid :=
 OpenClaim.holds_of_wide 8 Tryz.f8 rfl rfl rfl rfl rfl rfl rfl ⟨rfl, rfl, rfl, rfl, rfl⟩ rfl rfl rfl rfl rfl meekParts_named Tryz.func8 meekParts_facts
  meekParts_inst meekParts_wrap
  (fun os started H enc _ => meekParts_lifted os started H enc)
#print axioms meekParts_holds
end Go.Proofs.YthcbkhfmdginiaaGreat
