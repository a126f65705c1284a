/- The law GregorySolid returns true whatever the input, and every argument reads behind the call as it read before. No condition. -/
import Derived.Test.YtakcgoehnkognaaGreatBGWakG
import Derived.Test.YtakcgoehnkognaaGreatRows
import Derived.Test.YtakcgoehnkognaaGreatBGSam
import Derived.WalkKit
import Derived.ProofKit
import Derived.OpenShut
import Derived.ShutString
import Derived.ChangeOld
import Derived.Below

/- What the law on solid coalitions counts. No program. -/
namespace Go.Proofs.YtakcgoehnkognaaGreat
open Go Go.RowKit Go.Shelf Limb

/-- The candidates below k that some names. -/
def setL (some : List Int) (k : Nat) : List Int := (rngI k).filter fun c => hasI some c
theorem setL_succ (some : List Int) (k : Nat) : setL some (k + 1) = setL some k ++ if hasI some k then [(k : Int)] else [] := by
  rw [setL, rngI_succ, List.filter_append]
  cases h : hasI some (k : Int) <;> simp [setL, h]
theorem setL_le (some : List Int) (k : Nat) : (setL some k).length ≤ k := by
  have := List.length_filter_le (fun c => hasI some c) (rngI k)
  rwa [rngI_length] at this
theorem setL_facts (some : List Int) (k : Nat) : (setL some k).Nodup ∧ ∀ x ∈ setL some k, 0 ≤ x ∧ x < (k : Int) := ⟨(rngI_nodup k).filter _, fun _ hx => mem_rngI.1 (List.mem_filter.1 hx).1⟩
/-- The ballots on which a candidate is first. -/
def firF (rows : List Row) (x : Nat) : Int := (rows.map fun r => if r.marks.head? = some (x : Int) then r.many else 0).sum
theorem firF_take {rows : List Row} {k : Nat} (h : k < rows.length) (x : Nat) : firF (rows.take (k + 1)) x = firF (rows.take k) x + if rows[k].marks.head? = some (x : Int) then rows[k].many else 0 := by
  rw [List.take_succ_eq_append_getElem h, firF, firF, List.map_append, List.sum_append]; simp
theorem solN_take {A : List Int} {rows : List Row} {k : Nat} (h : k < rows.length) : solN A (rows.take (k + 1)) = solN A (rows.take k) + if solidB A rows[k] then rows[k].many else 0 := by
  rw [List.take_succ_eq_append_getElem h, solN, solN, List.map_append, List.sum_append]; simp
theorem row_sum {f : Row → Int} : ∀ {rows : List Row}, (∀ r ∈ rows, 0 ≤ f r ∧ f r ≤ r.many) → 0 ≤ (rows.map f).sum ∧ (rows.map f).sum ≤ sumR rows
  | [], _ => by simp [sumR]
  | r :: rows, h => by
    have ih := row_sum (rows := rows) fun s hs => h s (List.mem_cons_of_mem _ hs)
    have := h r List.mem_cons_self
    rw [List.map_cons, List.sum_cons, sumR, List.map_cons, List.sum_cons]
    rw [sumR] at ih
    omega
theorem firF_bound {rows : List Row} (h : ∀ r ∈ rows, 0 < r.many) (hs : sumR rows ≤ 1000000) (k x : Nat) : 0 ≤ firF (rows.take k) x ∧ firF (rows.take k) x ≤ 1000000 := by
  have h1 := row_sum (f := fun r => if r.marks.head? = some (x : Int) then r.many else 0) (rows := rows.take k) fun r hr => by have := h r (List.mem_of_mem_take hr); split <;> omega
  have h2 := (sumR_takeLe (l := rows) (fun r hr => by have := h r hr; omega) k).2
  rw [firF]; omega
theorem solN_bound {A : List Int} {rows : List Row} (h : ∀ r ∈ rows, 0 < r.many) (hs : sumR rows ≤ 1000000) (k : Nat) : 0 ≤ solN A (rows.take k) ∧ solN A (rows.take k) ≤ 1000000 := by
  have h1 := row_sum (f := fun r => if solidB A r then r.many else 0) (rows := rows.take k) fun r hr => by have := h r (List.mem_of_mem_take hr); split <;> omega
  have h2 := (sumR_takeLe (l := rows) (fun r hr => by have := h r hr; omega) k).2
  rw [solN]; omega
theorem solid_one {x : Int} {r : Row} : solidB [x] r = decide (r.marks.head? = some x) := by
  cases h : r.marks with
  | nil => simp [solidB, h]
  | cons y l => simp [solidB, h]
theorem fir_sol (rows : List Row) (x : Nat) : solN [(x : Int)] rows = firF rows x := by
  rw [solN, firF]
  congr 1
  apply List.map_congr_left
  intro r _
  rw [solid_one]
  simp
section
variable {p : Prof} {seats : Int} {lot : List Int} {C sn : Nat}
theorem fir_wins (h : RankF p seats lot C sn) {x : Nat} (hx : x < C) (hq : droop (markS p.rows) sn ≤ firF p.rows x) : (x : Int) ∈ (greS p sn lot C).el := by
  have h1 := solid_wins h (A := [(x : Int)]) (by simp) (fun y hy => by rw [List.mem_singleton.1 hy]; omega) (k := 1) (by rw [fir_sol]; omega)
  have h2 : 0 < (insI [(x : Int)] (greS p sn lot C).el).length := by simp at h1; omega
  obtain ⟨y, hy⟩ := List.exists_mem_of_length_pos h2
  obtain ⟨y1, y2⟩ := mem_insI.1 hy
  rw [List.mem_singleton.1 y1] at y2
  exact y2
end
/-- The elected of the set, below k. -/
def havF (el set : List Int) (k : Nat) : Nat := ((rngI k).filter fun c => hasI el c && hasI set c).length
theorem havF_succ (el set : List Int) (k : Nat) : havF el set (k + 1) = havF el set k + if hasI el k && hasI set k then 1 else 0 := by
  rw [havF, rngI_succ, List.filter_append, List.length_append]
  cases h : (hasI el (k : Int) && hasI set (k : Int)) <;> simp [havF, h]
theorem havF_end (el some : List Int) (C : Nat) : havF el (setL some C) C = (insI (setL some C) el).length := by
  rw [havF, insI, setL, List.filter_filter]
  congr 1
  apply List.filter_congr
  intro c hc
  rw [hasI, hasI, Bool.eq_iff_iff]
  simp only [Bool.and_eq_true, List.contains_iff_mem, List.mem_filter, hasI]
  exact ⟨fun ⟨a, _, b⟩ => ⟨a, b⟩, fun ⟨a, b⟩ => ⟨a, hc, b⟩⟩
theorem sol_law {p : Prof} {seats : Int} {lot : List Int} {C sn : Nat} (h : RankF p seats lot C sn) (some : List Int) (k : Nat) (hk : (k : Int) ≤ solN (setL some C) p.rows / droop (markS p.rows) sn) : min k (setL some C).length ≤ havF (greS p sn lot C).el (setL some C) C := by
  rw [havF_end]
  obtain ⟨h1, h2⟩ := setL_facts some C
  have hd := droop_bound h.votes (s := (sn : Int)) (by have := h.s; omega)
  refine solid_wins h h1 h2 ?_
  have := Int.mul_le_mul_of_nonneg_right hk (show 0 ≤ droop (markS p.rows) sn by omega)
  have h3 := Int.ediv_mul_le (solN (setL some C) p.rows) (show droop (markS p.rows) sn ≠ 0 by omega)
  omega
theorem solid_nil {A : List Int} {r : Row} (h : r.marks = []) : solidB A r = false := by
  unfold solidB
  rw [h]
  cases A <;> simp
theorem solid_no {A : List Int} {r : Row} (h : ¬ (0 < A.length ∧ A.length ≤ r.marks.length)) : solidB A r = false := by
  rw [Bool.eq_false_iff]
  intro hs
  simp only [solidB, Bool.and_eq_true, decide_eq_true_eq] at hs
  exact h ⟨hs.1, hs.2.1⟩
/-- Is the row ahead, so far as its first k marks say? -/
def aheadB (set l : List Int) (k : Nat) : Bool := decide (0 < set.length) && (decide (set.length ≤ l.length) && (l.take k).all fun x => set.contains x)
theorem ahead_end (set : List Int) (r : Row) : aheadB set r.marks set.length = solidB set r := rfl
theorem ahead_succ {set l : List Int} {k : Nat} (h : k < l.length) (ha : aheadB set l k = true) : aheadB set l (k + 1) = hasI set l[k] := by
  simp only [aheadB, Bool.and_eq_true] at ha
  obtain ⟨h1, h2, h3⟩ := ha
  rw [aheadB, h1, h2, Bool.true_and, Bool.true_and, List.take_succ_eq_append_getElem h, List.all_append, h3]
  simp [hasI]
theorem ahead_no {set l : List Int} {j k : Nat} (hjk : j ≤ k) (ha : aheadB set l j = false) : aheadB set l k = false := by
  rw [Bool.eq_false_iff] at ha ⊢
  intro h
  refine ha ?_
  simp only [aheadB, Bool.and_eq_true, List.all_eq_true] at h ⊢
  refine ⟨h.1, h.2.1, fun x hx => h.2.2 x ?_⟩
  exact (List.take_sublist_take_left hjk).subset hx
end Go.Proofs.YtakcgoehnkognaaGreat

/- The law GregorySolid: its walk (printed by gengsolid.py). -/
namespace Go.Proofs.YtakcgoehnkognaaGreat
open Go Go.RowKit Go.Shelf Limb

theorem wrap_add {a b : Int} (h0 : 0 ≤ a + b) (h1 : a + b ≤ 4000000000000000000) : IntKind.i64.wrap (a + b) = a + b := i64_small15 h0 h1
set_option maxHeartbeats 16000000 in
set_option maxRecDepth 100000 in
set_option linter.unusedSimpArgs false in
theorem law_gsolid (u v z : Value) (p : Prof) (seats : Int) (lot sm : List Int) (w : World) (h : VProf Any w u p) (_ : (Lit.int .i64 seats).wf = true) (hv : RInts Any w v lot) (hz : RInts Any w z sm) :
    Calls Tryz.prog 4 #[u, .int .i64 seats, v, z] w fun e w' => e = .returned (.bool true) ∧ Below w.heap.size w w' := by
  have h1 := h
  obtain ⟨a, m, c, rfl⟩ := h.agg
  obtain ⟨a2, c2, rfl, -, -⟩ := RSl.shape hv
  obtain ⟨W0, hW0⟩ : ∃ W0, W0 = w.alloc (.cells #[.int .i64 p.cands, .int .u8 p.kind, .slice a m c] 24) := ⟨_, rfl⟩
  have hb0 : Below w.heap.size w W0 := by rw [hW0]; exact below_new w _
  have hg0 : W0.heap[w.heap.size]? = some (.cells #[.int .i64 p.cands, .int .u8 p.kind, .slice a m c] 24 (0, 0)) := by rw [hW0]; exact box_new w _
  have hP := h1.same (.of_below hb0)
  have hL := hv.same (.of_below hb0)
  have hMay := l18May Any Any _ _ p seats lot W0 hP hL
  obtain ⟨a3, c3, rfl, -, -⟩ := RSl.shape hz
  have hZ := hz.same (.of_below hb0)
  by_cases h0' : rankI p seats lot = 0 ∧ sm.length ≤ 60
  · obtain ⟨h0, h60⟩ := h0'
    have hm : mayG p seats lot = true := by simp [mayG, h0]
    rw [hm] at hMay
    obtain ⟨C, sn, hF⟩ := rankF h0
    obtain rfl := hF.seats
    have hll : lot.length = C := hF.lot.len
    have hc10 := hF.c10
    have hs1 := hF.s
    have hC10 : C ≤ 10 := hc10.2
    have hsn10 : sn ≤ 10 := by omega
    obtain ⟨k1, k2, k3, k4⟩ := greF_end hF
    have hO := greV_eq hF h0
    obtain ⟨S, hS⟩ : ∃ S, greS p sn lot C = S := ⟨_, rfl⟩
    rw [hS] at k1 k2 k3 k4 hO
    obtain ⟨nr, hnr⟩ : ∃ n, S.rounds.length = n := ⟨_, rfl⟩
    obtain ⟨nt, hnt⟩ : ∃ n, S.ties.length = n := ⟨_, rfl⟩
    rw [hnr] at k2
    rw [hnt] at k3
    have hCt := fun (W : World) (hW : Below W0.heap.size W0 W) => greCountL Any Any _ _ p sn lot W _ (hP.same (.of_below hW)) (hL.same (.of_below hW)) h0 hO k1 hnr hnt
    have hLo := fun (W : World) (hW : Below W0.heap.size W0 W) => hL.same (.of_below hW)
    obtain ⟨kk, hkk⟩ : ∃ x, p.kind = x := ⟨_, rfl⟩
    obtain ⟨hq1, hq2⟩ := quotaV_eq hF
    have hQu := fun (W : World) (hW : Below W0.heap.size W0 W) => greQuota Any _ p sn W (hP.same (.of_below hW))
    rw [hq1, hq2] at hQu
    have hdb := droop_bound hF.votes (s := (sn : Int)) (by omega)
    have hfw := fun x hx hq => fir_wins hF (x := x) hx hq
    have hsw := fun k hk => sol_law hF sm k hk
    have hmb := hF.many
    have hsb := hF.sum
    have hmk := hF.marks
    have hr64 := hF.rows
    rw [hS] at hfw hsw
    have hZo := fun (W : World) (hW : Below W0.heap.size W0 W) => hZ.same (.of_below hW)
    have hRo := fun (W : World) (hW : Below W0.heap.size W0 W) => (hP.same (.of_below hW)).rws
    obtain ⟨qq, hqq⟩ : ∃ q, droop (markS p.rows) sn = q := ⟨_, rfl⟩
    rw [hqq] at hQu hdb hfw hsw
    obtain ⟨R0, hR0⟩ : ∃ r, p.rows = r := ⟨_, rfl⟩
    obtain ⟨nz, hnz⟩ : ∃ n, sm.length = n := ⟨_, rfl⟩
    obtain ⟨set, hset⟩ : ∃ s, setL sm C = s := ⟨_, rfl⟩
    obtain ⟨ns, hns⟩ : ∃ n, set.length = n := ⟨_, rfl⟩
    have hnsC : ns ≤ C := by rw [← hns, ← hset]; exact setL_le sm C
    have hfb := fun k x => firF_bound (rows := R0) (by rw [← hR0]; exact hmb) (by rw [← hR0]; exact hsb) k x
    have hsnb := fun k => solN_bound (A := set) (rows := R0) (by rw [← hR0]; exact hmb) (by rw [← hR0]; exact hsb) k
    rw [hset] at hsw
    rw [hns] at hsw
    simp only [hR0] at hRo hfw hsw hmb hsb hmk hr64
    rw [hnz] at h60 hZo ⊢
    have h60' : ¬ 60 < nz := by omega
    have hmkr := run_make_row' (P := Tryz.prog) 25 3 (.int .i64 0) 8 Tryz.underlying25 Tryz.infoInt rfl .i64 .i64 C (by omega) (by omega)
    have HQu := Lib.hid hQu; have Hdb := Lib.hid hdb; have Hfw := Lib.hid hfw; have Hsw := Lib.hid hsw; have Hmb := Lib.hid hmb; have Hsb := Lib.hid hsb; have Hmk := Lib.hid hmk; have Hr64 := Lib.hid hr64; have HZo := Lib.hid hZo; have HRo := Lib.hid hRo; have Hset := Lib.hid hset; have Hns := Lib.hid hns; have Hfb := Lib.hid hfb; have Hsnb := Lib.hid hsnb
    clear hQu hdb hfw hsw hmb hsb hmk hr64 hZo hRo hset hns hfb hsnb hq1 hq2 hqq hR0 hnz
    simp only [hF.cands, hkk, hll] at hMay hCt hLo hW0 hg0 ⊢
    have HQu2 := HQu.out
    simp only [hF.cands, hkk] at HQu2
    have HQ := Lib.hid HQu2
    have HR2 := HRo.out
    rw [hW0] at hMay
    clear HQu HQu2 HR2
    have HM := Lib.hid hMay; have HCt := Lib.hid hCt; have HLo := Lib.hid hLo; have HW0 := Lib.hid hW0; have G0 := Lib.hid hg0; have Hb0 := Lib.hid hb0; have HF := Lib.hid hF; have Hll := Lib.hid hll; have HJ := Lib.hid k4; have Hel := Lib.hid k1; have Hnr := Lib.hid hnr; have Hnt := Lib.hid hnt; have HS := Lib.hid hS
    clear hMay hCt hLo hW0 hg0 hb0 hF hll k4 k1 hnr hnt hS hP hL hZ hz h h1 hv hm h0 hO hkk hc10
    have st0 := Lib.hid True.intro
    have hq1' : ¬ qq < 1 := by have := Hdb.out; omega
    go_enter Tryz.func4, Tryz.ntmps4
    go_upto_region 7 with (first | (have := st0; go_at_call 22; clear st0; refine HM.out.mono ?_; rintro e w1 ⟨rfl, hb⟩; rw [← HW0.out] at hb; have q1 := Lib.hid hb; obtain ⟨pa, pb, pc, pl⟩ := box3 G0.out hb; clear hb; have st1 := Lib.hid True.intro; clear this) | (have := st1; go_at_call 13; clear st1; refine (HCt.out _ q1.out).mono ?_; rintro e w2 ⟨b1, d1, b2, d2, b3, d3, rfl, kv, hb⟩; have q2 := Lib.hid (bt q1.out hb); have HV2 := Lib.hid kv; clear hb kv pa pb pc pl; obtain ⟨pa, pb, pc, pl⟩ := box3 G0.out q2.out; have st2 := Lib.hid True.intro; clear this) | (have := st2; go_at_call 15; clear st2; refine (HQ.out _ (bt q2.out (below_new w2 (.cells #[.slice b1 sn d1, .slice b2 nr d2, .slice b3 nt d3] 32)))).mono ?_; rintro e w3 ⟨rfl, hb⟩; have C3 := Lib.hid (bt (below_new w2 (.cells #[.slice b1 sn d1, .slice b2 nr d2, .slice b3 nt d3] 32)) hb); have q3 := Lib.hid (bt q2.out C3.out); have GX := Lib.hid (keep_box hb (box_new w2 (.cells #[.slice b1 sn d1, .slice b2 nr d2, .slice b3 nt d3] 32))); clear hb pa pb pc pl; have st3 := Lib.hid True.intro; clear this))
    have hV := HV2.out.same (w' := w3) (.of_below C3.out)
    obtain ⟨hE, -, -⟩ := hV.split
    have HE := Lib.hid hE
    clear hV hE
    obtain ⟨pa, pb, pc, pl⟩ := box3 G0.out q3.out
    go_wp2
    clear pa pb pc pl
    go_loopw [13, 14] (fun sv i wr => ∃ k : Nat, k ≤ C ∧ i = .int .i64 k ∧ Hid (Own w3.heap.size 3 1 (dInt .i64) wr sv (setL sm k)) ∧ Hid (Below w3.heap.size w3 wr)) (fun _ i _ => C - (intOf i).toNat)
    case atStart => exact ⟨0, Nat.zero_le _, rfl, Lib.hid (Own.nil _ _ _ _ _), Lib.hid (Below.refl _ _)⟩
    case round =>
      obtain ⟨k, hk, rfl, hO, hb⟩ := hrel
      obtain ⟨pa, pb, pc, pl⟩ := box3 G0.out (bt q3.out hb.out)
      obtain ⟨as', cs', hvs⟩ := Own.shape hO.out
      obtain ⟨ms, hms⟩ : ∃ n, (setL sm k).length = n := ⟨_, rfl⟩
      have hms6 : (setL sm k).length ≤ 1000000 := by have := setL_le sm k; omega
      rw [hms] at hvs
      subst hvs
      by_cases hlt : k < C
      · have hs := setL_succ sm k
        have hIn := in_c Any _ sm (k : Int) wr (HZo.out wr (bt q3.out hb.out))
        have Hms6 := Lib.hid hms6
        have hwk : (Lit.int .i64 (k : Int)).wf = true := WalkArith.wf_i64 (by omega)
        have Hwk := Lib.hid hwk
        clear hms6 hms hwk
        cases hq : hasI sm (k : Int) with
        | true =>
          rw [hq] at hIn hs
          rw [if_pos rfl] at hs
          have HIn := Lib.hid hIn; have Hs := Lib.hid hs
          clear hIn hs hq
          go_wp2_with (first
            | (go_at_call 23; refine HIn.out.mono ?_; rintro e w4 ⟨rfl, hb4⟩; have HO4 := Lib.hid (Own.below (S := fun _ => False) (dInt.stable _ _) hO.out hb4); have B4 := Lib.hid (hb.out.trans (hb4.mono hb.out.size)); clear hb4)
            | (at_builtin; go_must (refine wpList_appI w4 Tryz.infoInt rfl rfl Tryz.underlying25 w3.heap.size HO4.out rfl rfl Hwk.out Hms6.out B4.out.size ?_); intro a5 n5 c5 w5 ho5 hb5; have HO5 := Lib.hid ho5; have HB5 := Lib.hid (hb5 _ _ (Nat.le_refl _) B4.out); clear ho5 hb5))
          exact ⟨⟨k + 1, by omega, by go_num, Lib.hid (by rw [Hs.out]; exact HO5.out), HB5⟩, by simp [intOf]; omega⟩
        | false =>
          rw [hq] at hIn hs
          rw [if_neg (by simp), List.append_nil] at hs
          have HIn := Lib.hid hIn; have Hs := Lib.hid hs
          clear hIn hs hq
          go_wp2_with (go_at_call 23; refine HIn.out.mono ?_; rintro e w4 ⟨rfl, hb4⟩; have HO4 := Lib.hid (Own.below (S := fun _ => False) (dInt.stable _ _) hO.out hb4); have B4 := Lib.hid (hb.out.trans (hb4.mono hb.out.size)); clear hb4)
          exact ⟨⟨k + 1, by omega, by go_num, Lib.hid (by rw [Hs.out]; exact HO4.out), B4⟩, by simp [intOf]; omega⟩
      · obtain rfl : C = k := by omega
        rw [Hset.out, Hns.out] at hms
        subst hms
        have hO5 := hO.out.ints hms6
        rw [Hset.out] at hO5
        obtain ⟨w5, hw5⟩ : ∃ q, q = wr := ⟨_, rfl⟩
        rw [← hw5] at hO5 hb pa pb pc pl ⊢
        have HO5 := Lib.hid hO5
        have HRm := HRo.out w5 (bt q3.out hb.out)
        have hm64 : m ≤ 64 := by rw [RSl.len HRm]; exact Hr64.out
        have Hm := Lib.hid (RSl.len HRm).symm
        clear hO5 hO hms6 hw5 HRm
        go_wp2
        clear hmkr pa pb pc pl
        go_loopw [15, 17] (fun sv i wr => ∃ (k : Nat) (s : Int), k ≤ m ∧ i = .int .i64 k ∧ sv = .int .i64 s ∧ Hid (s = solN set (R0.take k)) ∧ Hid (Arr .i64 wr w5.heap.size 3 (fl C fun x => firF (R0.take k) x)) ∧ Hid (Below w5.heap.size w5 wr)) (fun _ i _ => m - (intOf i).toNat)
        case atStart => exact ⟨0, 0, Nat.zero_le _, rfl, rfl, Lib.hid rfl, Lib.hid (by have := Arr.madeN (k := .i64) w5 C 3; rw [← fl_zero] at this; simpa [firF] using this), Lib.hid (below_new _ _)⟩
        case round =>
          obtain ⟨k, s, hk, rfl, rfl, hs, hA, hbr⟩ := hrel
          have q5 := bt q3.out (bt hb.out hbr.out)
          obtain ⟨pa, pb, pc, pl⟩ := box3 G0.out q5
          by_cases hlt2 : k < m
          · have hlr : k < R0.length := by rw [Hm.out]; exact hlt2
            obtain ⟨rb, roff, rc', rd, rfl, -, rbl, rcl, rdl, hx⟩ := RSl.at2 (HRo.out w5 (bt q3.out hb.out)) k hlr
            obtain ⟨mb, mc, rfl, rfl, hml7, -, hIx⟩ := hx.open
            have hs5 := Same.of_below (S := Any) hbr.out
            have RCL := Lib.hid rcl; have RDL := Lib.hid rdl
            have hso := solN_take (A := set) hlr
            have hfi := fun x => firF_take hlr x
            have hfb1 := fun x => Hfb.out (k + 1) x
            have hfb0 := fun x => Hfb.out k x
            have hsb1 := Hsnb.out (k + 1)
            have hsb0 := Hsnb.out k
            have hmk := Hmk.out _ (List.getElem_mem hlr)
            have hmy := Hmb.out _ (List.getElem_mem hlr)
            obtain ⟨r, hr⟩ : ∃ r, R0[k] = r := ⟨_, rfl⟩
            rw [hr] at hx hIx hso hmk hmy hml7
            have RCL5 := RCL.out
            have RDL5 := RDL.out
            rw [hr] at RCL5 RDL5
            clear RCL RDL rcl rdl
            simp only [hr] at hfi
            obtain ⟨ml, hml⟩ : ∃ n, r.marks.length = n := ⟨_, rfl⟩
            obtain ⟨mm, hmm⟩ : ∃ n, r.many = n := ⟨_, rfl⟩
            rw [hml] at RCL5 hIx
            rw [hmm] at RDL5 hso hmy
            have rcl := hs5.cell trivial RCL5
            have rdl := hs5.cell trivial RDL5
            have hrw := hbr.out.size
            have hrbl : rb < wr.heap.size := by omega
            have RCL := Lib.hid RCL5; have RDL := Lib.hid RDL5
            clear RCL5 RDL5 hs5
            simp only [hmm] at hfi
            have hmlC : ml ≤ C := by rw [← hml]; exact nodup_len hmk.1 hmk.2
            rw [← hs.out] at hsb0 hso
            have Hso := Lib.hid hso; have Hml := Lib.hid hml
            have HIx := Lib.hid hIx
            by_cases hm0 : ml = 0
            · subst hm0
              have hnil : r.marks = [] := List.eq_nil_of_length_eq_zero hml
              have hno : solidB set r = false := solid_nil hnil
              have hfe : fl C (fun x => firF (R0.take (k + 1)) x) = fl C (fun x => firF (R0.take k) x) := fl_congr fun x _ => by rw [hfi x, hnil]; simp
              have Hno := Lib.hid hno; have Hfe := Lib.hid hfe
              clear hso hfi hfb1 hfb0 hsb1 hsb0 hmk hmy hr hml hmm hx hIx hnil hno hfe hlr
              have ht : (0 < ns ∧ ¬ ns ≤ 0) ∨ ns = 0 := by omega
              rcases ht with ⟨t1, t2⟩ | rfl
              all_goals
                go_wp2
                obtain ⟨wy, hwy⟩ : ∃ q, q = wr := ⟨_, rfl⟩
                rw [← hwy] at hA hbr q5 pa pb pc pl rcl rdl ⊢
                clear hwy
                go_loopw [19, 20] (fun av i wq => av = .bool false ∧ i = .int .i64 0 ∧ wq = wy) (fun _ _ _ => 0)
                case atStart => exact ⟨by first | rfl | (simp; omega), rfl, rfl⟩
                case round =>
                  obtain ⟨rfl, rfl, rfl⟩ := hrel
                  go_wp2
                  exact ⟨⟨k + 1, s, by omega, by go_num, rfl, Lib.hid (by rw [Hso.out, Hno.out]; simp), Lib.hid (by rw [Hfe.out]; exact hA.out), hbr⟩, by simp [intOf]; omega⟩
            · -- a row with marks
              have hm1 : 0 < ml := by omega
              have hml0 : 0 < r.marks.length := by omega
              obtain ⟨z0, z1⟩ := hmk.2 _ (List.getElem_mem hml0)
              obtain ⟨mb2, moff, mc2, rfl, -, mbl, mcl, mhd⟩ := RSl.at1 HIx.out 0 hml0
              obtain ⟨rfl, -⟩ := mhd.open
              replace mcl := (Same.of_below (S := Any) hbr.out).cell trivial mcl
              have hmbl : mb2 < wr.heap.size := by omega
              have hh : r.marks.head? = some r.marks[0] := by rw [List.head?_eq_getElem?, List.getElem?_eq_getElem hml0]
              obtain ⟨y, hy⟩ : ∃ y, r.marks[0] = y := ⟨_, rfl⟩
              rw [hy] at z0 z1 mcl hh
              obtain ⟨yn, rfl⟩ : ∃ yn : Nat, y = (yn : Int) := ⟨y.toNat, by omega⟩
              have hyC : yn < C := by omega
              obtain ⟨f0, hf0⟩ : ∃ f, firF (R0.take k) yn = f := ⟨_, rfl⟩
              have hfe : fl C (fun x => firF (R0.take (k + 1)) x) = (fl C fun x => firF (R0.take k) x).set yn (f0 + mm) := by
                rw [fl_set]
                refine fl_congr fun x _ => ?_
                rw [hfi x, hh]
                by_cases e : x = yn
                · subst e; rw [if_pos rfl, if_pos rfl, hf0]
                · rw [if_neg e, if_neg (fun h => e (by have := Option.some.inj h; omega))]; simp
              have hb1 := hfb1 yn
              rw [hfi yn, hh, if_pos rfl, hf0] at hb1
              have hb0 := hfb0 yn
              rw [hf0] at hb0
              have hw2 : IntKind.i64.wrap (f0 + mm) = f0 + mm := wrap_add (by omega) (by omega)
              have hac : wr.cell? ⟨w5.heap.size, yn, none⟩ = some (.int .i64 f0) := by rw [hA.out.cell (i := yn) (by rw [fl_length]; omega), fl_get, hf0]
              have hfz := hA.out.frozen yn
              have hlA := hA.out.lt
              have hsw : IntKind.i64.wrap (s + mm) = s + mm := wrap_add (by omega) (by omega)
              have Hfe := Lib.hid hfe
              clear hfi hfb1 hfb0 hsb1 hsb0 hmk hmy hr hso hmm hx hIx hfe hb1 hb0 hh hf0 hlr z0 z1 mhd hml0 hml hy
              simp only [Nat.add_zero] at mcl
              go_upto_region 20 with fail
              go_still_tail 18, (by kernel_rfl)
              obtain ⟨wd, hwd0⟩ : ∃ q : World, q = { heap := wr.heap, tape := wr.tape, drawn := wr.drawn + 1, os := wr.os, output := wr.output } := ⟨_, rfl⟩
              have hwd : wd = wr.drew := hwd0
              have hfd : wd.frozen? ⟨w5.heap.size, yn, none⟩ = false := by rw [hwd]; exact hfz
              have hcd : wd.cell? ⟨w5.heap.size, yn, none⟩ = some (.int .i64 f0) := by rw [hwd]; exact hac
              have hld : w5.heap.size < wd.heap.size := by rw [hwd]; exact hlA
              rw [← hwd0]
              have HWD := Lib.hid hwd
              clear hwd hwd0 hac hfz hlA
              go_upto_region 21 with fail
              obtain ⟨wy, hwy⟩ : ∃ q, q = wd.setCell ⟨w5.heap.size, yn, none⟩ (.int .i64 (f0 + mm)) := ⟨_, rfl⟩
              have hAy : Arr .i64 wy w5.heap.size 3 (fl C fun x => firF (R0.take (k + 1)) x) := by rw [hwy, Hfe.out, HWD.out]; exact Arr.set (show Arr .i64 wr.drew _ _ _ from hA.out) _ _
              have hBy : Below w5.heap.size w5 wy := by rw [hwy, HWD.out]; exact (hbr.out.drew).setCell (p := ⟨w5.heap.size, yn, none⟩) (Nat.le_refl _) _
              rw [← hwy]
              clear hwy hfd hcd hld HWD pa pb pc pl rcl rdl hw2 mcl
              obtain ⟨pa, pb, pc, pl⟩ := box3 G0.out (bt q3.out (bt hb.out hBy))
              have rcl := (Same.of_below (S := Any) hBy).cell trivial RCL.out
              have rdl := (Same.of_below (S := Any) hBy).cell trivial RDL.out
              have hrw2 := hBy.size
              have hrb2 : rb < wy.heap.size := by omega
              have HAy := Lib.hid hAy; have HBy := Lib.hid hBy
              clear hAy hBy
              have ht : (ns = 0) ∨ (0 < ns ∧ ¬ ns ≤ ml) ∨ (0 < ns ∧ ns ≤ ml) := by omega
              rcases ht with t0 | ⟨t1, t2⟩ | ⟨t1, t2⟩
              · have hno : solidB set r = false := solid_no (by rw [Hns.out]; omega)
                have Hno := Lib.hid hno
                subst t0
                clear hno
                go_wp2
                go_loopw [19, 20] (fun av i wq => av = .bool false ∧ i = .int .i64 0 ∧ wq = wy) (fun _ _ _ => 0)
                case atStart => exact ⟨by first | rfl | (simp; omega), rfl, rfl⟩
                case round =>
                  obtain ⟨rfl, rfl, rfl⟩ := hrel
                  go_wp2
                  exact ⟨⟨k + 1, s, by omega, by go_num, rfl, Lib.hid (by rw [Hso.out, Hno.out]; simp), HAy, HBy⟩, by simp [intOf]; omega⟩
              · have hno : solidB set r = false := solid_no (by rw [Hns.out, Hml.out]; omega)
                have Hno := Lib.hid hno
                have t3 : decide (ns ≤ ml) = false := decide_eq_false t2
                clear hno
                go_wp2
                go_loopw [19, 20] (fun av i wq => av = .bool false ∧ i = .int .i64 0 ∧ wq = wy) (fun _ _ _ => 0)
                case atStart => exact ⟨by first | rfl | (simp; omega), rfl, rfl⟩
                case round =>
                  obtain ⟨rfl, rfl, rfl⟩ := hrel
                  go_wp2
                  exact ⟨⟨k + 1, s, by omega, by go_num, rfl, Lib.hid (by rw [Hso.out, Hno.out]; simp), HAy, HBy⟩, by simp [intOf]; omega⟩
              · go_wp2
                go_loopw [19, 20] (fun av i wq => ∃ (j : Nat) (b : Bool), j ≤ ns ∧ i = .int .i64 j ∧ av = .bool b ∧ Hid (b = aheadB set r.marks j) ∧ Hid (Below wy.heap.size wy wq)) (fun _ i _ => ns - (intOf i).toNat)
                case atStart => exact ⟨0, true, Nat.zero_le _, rfl, by first | rfl | (simp; omega), Lib.hid (by simp [aheadB, Hns.out, Hml.out]; omega), Lib.hid (Below.refl _ _)⟩
                case round =>
                  obtain ⟨j, b, hj, rfl, rfl, hab, hq⟩ := hrel
                  have hbj : j < ns ∨ j = ns := by omega
                  have hsm := Same.of_below (S := Any) (bt HBy.out hq.out)
                  have rcl3 := hsm.cell trivial RCL.out
                  have rdl3 := hsm.cell trivial RDL.out
                  have hqs := hq.out.size
                  have hrb3 : rb < wr.heap.size := by omega
                  clear pa pb pc pl rcl rdl
                  obtain ⟨pa, pb, pc, pl⟩ := box3 G0.out (bt q3.out (bt hb.out (bt HBy.out hq.out)))
                  have HBz := Lib.hid (bt HBy.out hq.out); have HAz := Lib.hid (HAy.out.below hq.out)
                  rcases hbj with hbj | rfl
                  · cases b with
                    | true =>
                      have hjl : j < r.marks.length := by rw [Hml.out]; omega
                      have hnx := ahead_succ hjl hab.out.symm
                      obtain ⟨jb, joff, jc, je, -, jbl, jcl, jhd⟩ := RSl.at1 HIx.out j hjl
                      obtain ⟨rfl, -⟩ := jhd.open
                      simp only [Option.some.injEq, Addr.mk.injEq] at je
                      obtain ⟨rfl, rfl, -⟩ := je
                      have jcl2 := hsm.cell trivial jcl
                      have jbl2 : mb2 < wr.heap.size := by have := HBz.out.size; omega
                      have hIn := in_c Any _ set r.marks[j] wr (HO5.out.same (.of_below HBz.out))
                      obtain ⟨y, hy⟩ : ∃ y, r.marks[j] = y := ⟨_, rfl⟩
                      rw [hy] at hnx hIn jcl2
                      obtain ⟨b2, hb2⟩ : ∃ b, hasI set y = b := ⟨_, rfl⟩
                      rw [hb2] at hnx hIn
                      have HIn := Lib.hid hIn; have Hnx := Lib.hid hnx
                      clear hIn hnx hb2 hy jhd jcl jbl hjl hsm rcl3 rdl3 pa pb pc pl hab
                      go_wp2_with (go_at_call 23; refine HIn.out.mono ?_; rintro e w8 ⟨rfl, hb8⟩; have B8 := Lib.hid hb8; clear hb8)
                      exact ⟨⟨j + 1, b2, by omega, by go_num, rfl, Lib.hid Hnx.out.symm, Lib.hid (bt hq.out B8.out)⟩, by simp [intOf]; omega⟩
                    | false =>
                      have hno : solidB set r = false := by rw [← ahead_end]; exact ahead_no (by rw [Hns.out]; omega) hab.out.symm
                      have Hno := Lib.hid hno
                      clear hno hsm rcl3 rdl3 pa pb pc pl hab
                      go_wp2
                      exact ⟨⟨k + 1, s, by omega, by go_num, rfl, Lib.hid (by rw [Hso.out, Hno.out]; simp), HAz, HBz⟩, by simp [intOf]; omega⟩
                  · have hend : solidB set r = b := by rw [← ahead_end, Hns.out, ← hab.out]
                    have Hend := Lib.hid hend
                    clear hend hab
                    cases b with
                    | true =>
                      clear hsm
                      go_wp2
                      exact ⟨⟨k + 1, s + mm, by omega, by go_num, rfl, Lib.hid (by rw [Hso.out, Hend.out]; simp), HAz, HBz⟩, by simp [intOf]; omega⟩
                    | false =>
                      clear hsm rcl3 rdl3 pa pb pc pl
                      go_wp2
                      exact ⟨⟨k + 1, s, by omega, by go_num, rfl, Lib.hid (by rw [Hso.out, Hend.out]; simp), HAz, HBz⟩, by simp [intOf]; omega⟩
          · obtain rfl : m = k := by omega
            have hA2 := hA.out
            have hs2 := hs.out
            simp only [List.take_of_length_le (show R0.length ≤ m by rw [Hm.out]; exact Nat.le_refl _)] at hA2 hs2
            have hsnn := Hsnb.out m
            rw [List.take_of_length_le (show R0.length ≤ m by rw [Hm.out]; exact Nat.le_refl _), ← hs2] at hsnn
            have hsw := fun (kk : Nat) h => Hsw.out kk h
            rw [← hs2] at hsw
            obtain ⟨w6, hw6⟩ : ∃ q, q = wr := ⟨_, rfl⟩
            rw [← hw6] at hA2 hbr pa pb pc pl ⊢
            have HA6 := Lib.hid hA2; have HB6 := Lib.hid hbr.out; have HSw := Lib.hid hsw
            clear hA2 hs2 hw6 hA hs hsw q5
            go_wp2
            clear pa pb pc pl
            go_loopw [21, 22] (fun hv i wr => ∃ j h : Nat, j ≤ C ∧ i = .int .i64 j ∧ hv = .int .i64 h ∧ h ≤ j ∧ Hid (h = havF S.el set j) ∧ Hid (Below w6.heap.size w6 wr)) (fun _ i _ => C - (intOf i).toNat)
            case atStart => exact ⟨0, 0, Nat.zero_le _, rfl, rfl, Nat.le_refl _, Lib.hid rfl, Lib.hid (Below.refl _ _)⟩
            case round =>
              obtain ⟨j, h, hj, rfl, rfl, hle, hh, hb7⟩ := hrel
              have q7 := bt q3.out (bt hb.out (bt HB6.out hb7.out))
              obtain ⟨pa, pb, pc, pl⟩ := box3 G0.out q7
              by_cases hlt3 : j < C
              · obtain ⟨o0, o1, o2, ol⟩ := box3 GX.out (bt hb.out (bt HB6.out hb7.out))
                have hE7 := HE.out.same (w' := wr) (.of_below (bt hb.out (bt HB6.out hb7.out)))
                have hI1 := in_c Any _ S.el (j : Int) wr hE7
                have hI2 := fun W (hW : Below wr.heap.size wr W) => in_c Any _ set (j : Int) W (HO5.out.same (.of_below (bt HB6.out (bt hb7.out hW))))
                have hA7 := HA6.out.below hb7.out
                have hac := fun W (hW : Below wr.heap.size wr W) => (hA7.below hW).cell (i := j) (by rw [fl_length]; exact hlt3)
                have hal := hA7.lt
                simp only [fl_get] at hac
                have hfw := Hfw.out j hlt3
                obtain ⟨f, hf⟩ : ∃ f, firF R0 j = f := ⟨_, rfl⟩
                simp only [hf] at hac hfw
                have hsu := havF_succ S.el set j
                obtain ⟨b1', hb1⟩ : ∃ b, hasI S.el (j : Int) = b := ⟨_, rfl⟩
                obtain ⟨b2', hb2⟩ : ∃ b, hasI set (j : Int) = b := ⟨_, rfl⟩
                rw [hb1] at hI1
                simp only [hb2] at hI2
                rw [hb1, hb2, ← hh.out] at hsu
                have hno : b1' = false → ¬ f ≥ qq := fun e hq => by
                  have := hfw hq
                  rw [hasI, List.contains_eq_any_beq, e] at hb1
                  have h2 := List.any_eq_false.1 hb1 _ this
                  simp at h2
                have HI1 := Lib.hid hI1; have HI2 := Lib.hid hI2; have Hac := Lib.hid hac; have Hsu := Lib.hid hsu
                clear hI1 hI2 hac hsu hb1 hb2 hf hA7 hE7 hfw hh
                cases b1' with
                | false =>
                  have h1 := hno rfl
                  have h2 : decide (f ≥ qq) = false := decide_eq_false h1
                  clear hno
                  go_wp2_with (go_at_call 23; refine HI1.out.mono ?_; rintro e w8 ⟨rfl, hb8⟩; have c8 := Hac.out _ hb8; have B8 := Lib.hid hb8; have hs8 := hb8.size; clear hb8)
                  exact ⟨⟨j + 1, h, by omega, by go_num, rfl, by omega, Lib.hid (by rw [Hsu.out]; simp), Lib.hid (bt hb7.out B8.out)⟩, by simp [intOf]; omega⟩
                | true =>
                  clear hno
                  have st0 := Lib.hid True.intro
                  cases b2' with
                  | false =>
                    by_cases hfq : f ≥ qq
                    all_goals
                      go_wp2_with (first
                        | (have := st1; go_at_call 23; clear st1; refine (HI2.out _ B8.out).mono ?_; rintro e w9 ⟨rfl, hb9⟩; have B9 := Lib.hid hb9; clear hb9 this)
                        | (have := st0; go_at_call 23; clear st0; refine HI1.out.mono ?_; rintro e w8 ⟨rfl, hb8⟩; have c8 := Hac.out _ hb8; have B8 := Lib.hid hb8; have hs8 := hb8.size; clear hb8 this; have st1 := Lib.hid True.intro))
                      exact ⟨⟨j + 1, h, by omega, by go_num, rfl, by omega, Lib.hid (by rw [Hsu.out]; simp), Lib.hid (bt hb7.out (bt B8.out B9.out))⟩, by simp [intOf]; omega⟩
                  | true =>
                    by_cases hfq : f ≥ qq
                    all_goals
                      go_wp2_with (first
                        | (have := st1; go_at_call 23; clear st1; refine (HI2.out _ B8.out).mono ?_; rintro e w9 ⟨rfl, hb9⟩; have B9 := Lib.hid hb9; clear hb9 this)
                        | (have := st0; go_at_call 23; clear st0; refine HI1.out.mono ?_; rintro e w8 ⟨rfl, hb8⟩; have c8 := Hac.out _ hb8; have B8 := Lib.hid hb8; have hs8 := hb8.size; clear hb8 this; have st1 := Lib.hid True.intro))
                      exact ⟨⟨j + 1, h + 1, by omega, by go_num, by go_num, by omega, Lib.hid (by rw [Hsu.out]; simp), Lib.hid (bt hb7.out (bt B8.out B9.out))⟩, by simp [intOf]; omega⟩
              · obtain rfl : C = j := by omega
                have hq1 := Hdb.out.1
                have htd : s.tdiv qq = s / qq := Int.tdiv_eq_ediv_of_nonneg hsnn.1
                have hd0 : 0 ≤ s / qq := Int.ediv_nonneg hsnn.1 (by omega)
                have hd1 : s / qq ≤ s := Int.ediv_le_self _ hsnn.1
                have hwin := HSw.out (s / qq).toNat (by omega)
                rw [← hh.out] at hwin
                obtain ⟨dv, hdv⟩ : ∃ d, s / qq = d := ⟨_, rfl⟩
                rw [hdv] at htd hd0 hd1 hwin
                have hwd : IntKind.i64.wrap dv = dv := i64_small15 hd0 (by omega)
                have hz1 : (qq == 0) = false := by simp; omega
                have hz2 : ¬ qq = 0 := by omega
                have hz3 : ¬ qq = -1 := by omega
                have hmin : min dv (ns : Int) ≤ (h : Int) := by omega
                clear hdv hd0 hd1 hwin hh hsnn hq1
                go_wp2_with (go_at_call 11; refine (wakes18 _).mono ?_; rintro e w9 ⟨rfl, hb9⟩; have B9 := Lib.hid hb9; clear hb9)
                go_ret
                exact ⟨rfl, bt Hb0.out (bt q7 B9.out)⟩
  · obtain ⟨cc, hcc⟩ : ∃ x, p.cands = x := ⟨_, rfl⟩
    obtain ⟨kk, hkk⟩ : ∃ x, p.kind = x := ⟨_, rfl⟩
    obtain ⟨nl, hnl⟩ : ∃ x, lot.length = x := ⟨_, rfl⟩
    obtain ⟨nz, hnz⟩ : ∃ x, sm.length = x := ⟨_, rfl⟩
    have hw : mayG p seats lot = false ∨ (mayG p seats lot = true ∧ 60 < nz) := by
      by_cases h0 : rankI p seats lot = 0
      · exact .inr ⟨by simp [mayG, h0], by omega⟩
      · exact .inl (by simp [mayG, h0])
    obtain ⟨mb, hmb⟩ : ∃ b, mayG p seats lot = b := ⟨_, rfl⟩
    rw [hmb] at hw
    rw [hmb, hW0] at hMay
    rw [hcc, hkk, hnl] at hMay
    rw [hcc, hkk] at hW0
    rw [hcc, hkk, hnl, hnz]
    have HM := Lib.hid hMay; have Hb0 := Lib.hid hb0; have HW0 := Lib.hid hW0
    clear hMay hb0 hW0 hP hL hZ hz h h1 hv h0' hg0 hcc hkk hnl hnz hmb
    rcases hw with rfl | ⟨rfl, hw⟩
    all_goals
      go_enter Tryz.func4, Tryz.ntmps4
      go_wp2_with (first
        | (go_at_call 22; refine HM.out.mono ?_; rintro e w1 ⟨rfl, hb⟩; rw [← HW0.out] at hb; have hq := bt Hb0.out hb; clear hb)
        | (go_at_call 11; refine (wakes18 _).mono ?_; rintro e w2 ⟨rfl, hb⟩))
      go_ret
      exact ⟨rfl, bt hq hb⟩
end Go.Proofs.YtakcgoehnkognaaGreat

namespace Go.Proofs.YtakcgoehnkognaaGreat
open Go Go.RowKit Go.ChangeShapes Go.WideShapes Go.ChangeAt

set_option maxRecDepth 100000 in
theorem gregorySolid_lifted (os : Os) (started : os.Started) (H : Type) (enc : TypeId × Value → H) :
    ReturnsInHanded {} Tryz.checked os 4 .any (Rows.gregorySolidSpec.pre6 enc Tryz.prog Tryz.f4 Rows.gregorySolidRow.domain false) (Rows.gregorySolidSpec.post enc Tryz.prog Tryz.f4 false true false false) := by
  refine returnsInHanded_of_change_sized (C := Tryz.checked) Tryz.own started (by kernel_rfl) Tryz.func4
    (ChangeSpec.witness6 (enc := enc) (C := Tryz.checked) false ⟨#[], #[.agg #[.int .i64 0, .int .u8 0, .slice none 0 0], .int .i64 0, .slice none 0 0, .slice none 0 0], []⟩ 8 (by kernel_rfl) (by kernel_rfl) (by kernel_rfl) (by kernel_rfl)) ?_
  intro W base args ds gs before hval0 hW hcnd hsz0 _
  have hval : ∀ (j : Nat) t v, Tryz.f4.params[j]? = some t → args[j]? = some v → Value.okWide Tryz.prog W .any base t v := hval0
  have hsz : (DataW.weightsEach Tryz.prog (Tryz.f4.params.toList ++ Rows.gregorySolidSpec.plain.varTypes Tryz.prog) (ds ++ gs)).all (· ≤ reachBytes) = true := hsz0
  have hW' := hW
  obtain ⟨p, q, hA0, hV, rfl, hfz, hnd⟩ := hW
  have hA : DataW.TrodAll enc Tryz.prog W 0 (fun _ => true) true Tryz.f4.params.toList args.toList ds p := hA0
  rw [Tryz.params4] at hA hval hsz
  obtain ⟨v0, vs0, d0, ds0, p0, q0, hargs, rfl, rfl, h0, r0⟩ := trodAll_cons hA
  obtain ⟨v1, vs1, d1, ds1, p1, q1, rfl, rfl, rfl, h1, r1⟩ := trodAll_cons r0
  obtain ⟨v2, vs2, d2, ds2, p2, q2, rfl, rfl, rfl, h2, r2⟩ := trodAll_cons r1
  obtain ⟨v3, vs3, d3, ds3, p3, q3, rfl, rfl, rfl, h3, r3⟩ := trodAll_cons r2
  obtain ⟨rfl, rfl, rfl⟩ := trodAll_nil r3
  obtain rfl : args = #[v0, v1, v2, v3] := by cases args; simp_all
  obtain ⟨rfl, rfl⟩ := trodVars_none hV
  have k0 := h0
  have k1 := h1
  have k2 := h2
  have k3 := h3
  have lt0 : ∀ x ∈ p0, x.block < W.heap.size := by obtain ⟨m, hm⟩ := k0; exact DataW.trod_lt m _ _ _ hm
  have lt1 : ∀ x ∈ p1, x.block < W.heap.size := by obtain ⟨m, hm⟩ := k1; exact DataW.trod_lt m _ _ _ hm
  have lt2 : ∀ x ∈ p2, x.block < W.heap.size := by obtain ⟨m, hm⟩ := k2; exact DataW.trod_lt m _ _ _ hm
  have lt3 : ∀ x ∈ p3, x.block < W.heap.size := by obtain ⟨m, hm⟩ := k3; exact DataW.trod_lt m _ _ _ hm
  obtain ⟨x0, y0⟩ := arg_prof (hval 0 _ v0 rfl rfl) h0 (weights_at hsz 0 rfl rfl)
  obtain ⟨x1, rfl, e1, e1', wf1⟩ := open_int Tryz.underlying3 (hval 1 _ v1 rfl rfl) h1
  obtain ⟨x2, y2⟩ := arg_ints (hval 2 _ v2 rfl rfl) h2 (weights_at hsz 2 rfl rfl)
  obtain ⟨x3, y3⟩ := arg_ints (hval 3 _ v3 rfl rfl) h3 (weights_at hsz 3 rfl rfl)
  clear hA0 hval0
  refine (law_gsolid v0 v2 v3 x0 x1 x2 x3 W y0 wf1 y2 y3).mono fun e W' ⟨he, bel⟩ => ?_
  subst he
  exact ⟨_, rfl, _, _, _, [], _, [], hW', trodAll_mk1 (shut_bool Tryz.underlying4 _), (trodAll_cons_mk (Below.trod Tryz.laidOut (by kernel_rfl) (of_decide_eq_true (by kernel_rfl)) k0 bel lt0) (trodAll_cons_mk (Below.trod Tryz.laidOut (by kernel_rfl) (of_decide_eq_true (by kernel_rfl)) k1 bel lt1) (trodAll_cons_mk (Below.trod Tryz.laidOut (by kernel_rfl) (of_decide_eq_true (by kernel_rfl)) k2 bel lt2) (trodAll_cons_mk (Below.trod Tryz.laidOut (by kernel_rfl) (of_decide_eq_true (by kernel_rfl)) k3 bel lt3) trodAll_mk0)))), rfl, bel.frame _, fun h => by cases h⟩

theorem gregorySolid_named : Tryz.prog.funcNamed Rows.gregorySolidRow.func = some 4 := by kernel_rfl
theorem gregorySolid_facts : joinedFacts Tryz.prog 4 Tryz.f4 Rows.gregorySolidSpec Rows.gregorySolidRow = true := by kernel_rfl
theorem gregorySolid_inst : Tryz.f4.isInstance Tryz.prog Rows.gregorySolidRow.origin Rows.gregorySolidRow.targs := of_decide_eq_true (by kernel_rfl)
theorem gregorySolid_wrap : Tryz.f4.isWrapper Tryz.prog Rows.gregorySolidRow.wrapper Rows.gregorySolidRow.mainSum := by
  unfold Func.isWrapper
  rw [if_neg (of_decide_eq_false (by kernel_rfl))]
  exact ⟨rfl, rfl⟩
theorem gregorySolid_holds : Rows.GregorySolidSaid :=
  OpenClaim.holds_of_wide 4 Tryz.f4 rfl rfl rfl rfl rfl rfl rfl ⟨rfl, rfl, rfl, rfl, rfl⟩ rfl rfl rfl rfl rfl gregorySolid_named Tryz.func4 gregorySolid_facts
    gregorySolid_inst gregorySolid_wrap
    (fun os started H enc _ => gregorySolid_lifted os started H enc)
#print axioms gregorySolid_holds
end Go.Proofs.YtakcgoehnkognaaGreat
