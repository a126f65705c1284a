/- The law SingleTies returns true whatever the input, and every argument reads behind the call as it read before. No condition. -/
import Derived.Test.YtogngcbflhdadaaGreatBGMore
import Derived.Test.YtogngcbflhdadaaGreatRows
import Derived.Test.YtogngcbflhdadaaGreatBGSam
import Derived.WalkKit
import Derived.ProofKit
import Derived.OpenShut
import Derived.ShutString
import Derived.ChangeOld
import Derived.Below

/- Laws of the recorded ties. No program. -/
namespace Go.Proofs.YtogngcbflhdadaaGreat

/-- Those who share the seat that is given behind j others. -/
def amL (had lot : List Int) (j : Nat) : List Int := bestL (gI had) (seatSt had lot j).left
/-- The rounds with a tie. -/
def tieR (had lot : List Int) (n : Nat) : List Nat := (List.range n).filter fun j => decide (1 < (amL had lot j).length)
theorem tieR_succ (had lot : List Int) (n : Nat) : tieR had lot (n + 1) = tieR had lot n ++ if 1 < (amL had lot n).length then [n] else [] := by
  rw [tieR, tieR, List.range_succ, List.filter_append]
  by_cases h : 1 < (amL had lot n).length <;> simp [h]
theorem ties_eq (had lot : List Int) : ∀ n, (seatSt had lot n).ties = (tieR had lot n).map fun j => ⟨amL had lot j, winL had lot j⟩
  | 0 => rfl
  | n + 1 => by
    have e : (seatSt had lot (n + 1)).ties = (seatSt had lot n).ties ++ tieL (amL had lot n) (winL had lot n) := rfl
    rw [e, ties_eq had lot n, tieR_succ, List.map_append, tieL]
    by_cases h : 1 < (amL had lot n).length
    · rw [if_pos h, if_pos h]; rfl
    · rw [if_neg h, if_neg h]; rfl
theorem tieR_mem {had lot : List Int} {n j : Nat} : j ∈ tieR had lot n ↔ j < n ∧ 1 < (amL had lot j).length := by
  simp [tieR, List.mem_filter]
theorem tieR_asc (had lot : List Int) (n : Nat) : (tieR had lot n).Pairwise (fun a b => a < b) := List.Pairwise.filter _ List.pairwise_lt_range
theorem rngI_asc (n : Nat) : (rngI n).Pairwise (fun a b => a < b) := by
  rw [rngI]
  exact List.Pairwise.map _ (fun a b h => by simp only [Int.ofNat_eq_natCast]; omega) List.pairwise_lt_range
theorem am_asc (had lot : List Int) (j : Nat) : (amL had lot j).Pairwise (fun a b => a < b) := by
  rw [amL, bestL, seat_left]
  exact ((rngI_asc _).filter _).filter _
theorem am_mem {had lot : List Int} {j : Nat} {x : Int} (h : x ∈ amL had lot j) : x ∈ (seatSt had lot j).left ∧ 0 ≤ x ∧ x < had.length ∧ ∀ y ∈ (seatSt had lot j).left, gI had y ≤ gI had x := by
  obtain ⟨h1, h2⟩ := bestL_mem.1 h
  have h3 := h1
  rw [seat_left] at h3
  have h4 := mem_rngI.1 (List.mem_filter.1 h3).1
  exact ⟨h1, h4.1, h4.2, h2⟩
/-- What a recorded tie is. -/
structure TieAt (had lot : List Int) (n : Nat) (t : Tie) (j : Nat) : Prop where
  lt : j < n
  two : 2 ≤ t.among.length
  first : firstL lot t.among = t.chosen
  win : t.chosen = winL had lot j
  cand : 0 ≤ t.chosen ∧ t.chosen < had.length
  range : ∀ k (h : k < t.among.length), 0 ≤ t.among[k] ∧ t.among[k] < had.length
  asc : ∀ k (h : k < t.among.length), 0 < k → t.among[k - 1] < t.among[k]
  pts : ∀ k (h : k < t.among.length), gI had t.among[k] = gI had t.chosen
theorem tie_at {had lot : List Int} (hl : LotOf lot had.length) {n i : Nat} (hn : n ≤ had.length) (h : i < (seatSt had lot n).ties.length) (h2 : i < (tieR had lot n).length) : TieAt had lot n (seatSt had lot n).ties[i] (tieR had lot n)[i] := by
  obtain ⟨t, ht⟩ : ∃ t, (seatSt had lot n).ties[i] = t := ⟨_, rfl⟩
  have e : t = ⟨amL had lot (tieR had lot n)[i], winL had lot (tieR had lot n)[i]⟩ := by
    rw [← ht]
    simp only [ties_eq, List.getElem_map]
  rw [ht, e]
  obtain ⟨j, hj⟩ : ∃ j, (tieR had lot n)[i] = j := ⟨_, rfl⟩
  have hm : j ∈ tieR had lot n := hj ▸ List.getElem_mem _
  rw [hj]
  obtain ⟨h3, h4⟩ := tieR_mem.1 hm
  obtain ⟨-, -, g3⟩ := seat_facts hl j (by omega)
  have hne : (seatSt had lot j).left ≠ [] := fun e => by rw [e] at g3; simp at g3; omega
  obtain ⟨w1, w2⟩ := seat_win hl hne
  have w3 : winL had lot j ∈ amL had lot j := w1
  obtain ⟨-, c1, c2, c3⟩ := am_mem w3
  refine ⟨h3, h4, rfl, rfl, ⟨c1, c2⟩, fun k hk => ?_, fun k hk h0 => ?_, fun k hk => ?_⟩
  · obtain ⟨-, k1, k2, -⟩ := am_mem (List.getElem_mem hk)
    exact ⟨k1, k2⟩
  · exact List.pairwise_iff_getElem.1 (am_asc had lot j) (k - 1) k (by simp only at hk; omega) hk (by omega)
  · obtain ⟨k0, k1, k2, k3⟩ := am_mem (List.getElem_mem hk)
    have := k3 _ w2
    have := c3 _ k0
    have e1 : firstL lot (bestL (gI had) (seatSt had lot j).left) = winL had lot j := rfl
    simp only [e1] at *
    omega
theorem win_mem {had lot : List Int} {n j : Nat} (h : j < n) : winL had lot j ∈ (seatSt had lot n).elected := by
  have hl : j < (seatSt had lot n).elected.length := by rw [seat_elected]; exact h
  rw [← seat_get had lot h hl]
  exact List.getElem_mem hl
theorem ties_index {had lot : List Int} (hl : LotOf lot had.length) {n : Nat} (hn : n ≤ had.length) :
    ∃ J : Nat → Nat, (∀ i (h : i < (seatSt had lot n).ties.length), TieAt had lot n (seatSt had lot n).ties[i] (J i)) ∧ ∀ i k, i < k → k < (seatSt had lot n).ties.length → J i < J k := by
  have hlen : (seatSt had lot n).ties.length = (tieR had lot n).length := by rw [ties_eq, List.length_map]
  have hg : ∀ i (h : i < (tieR had lot n).length), (tieR had lot n).getD i 0 = (tieR had lot n)[i] := fun i h => by
    rw [List.getD_eq_getElem?_getD, List.getElem?_eq_getElem h]; rfl
  refine ⟨fun i => (tieR had lot n).getD i 0, fun i h => ?_, fun i k hik hk => ?_⟩
  · have := tie_at hl hn h (by rw [← hlen]; exact h)
    simp only [hg i (by rw [← hlen]; exact h)]
    exact this
  · simp only [hg i (by omega), hg k (by omega)]
    exact List.pairwise_iff_getElem.1 (tieR_asc had lot n) i k (by omega) (by omega) hik
/-- Without ties each winner has more than all who have no seat yet. -/
theorem no_tie {had lot : List Int} (hl : LotOf lot had.length) {n i : Nat} (ht : (seatSt had lot n).ties = []) (hi : i < n) {c : Int} (hc : 0 ≤ c ∧ c < had.length) (hm : gI had (winL had lot i) ≤ gI had c) : c ∈ (seatSt had lot (i + 1)).elected := by
  by_cases hce : c ∈ (seatSt had lot i).elected
  · rw [seat_succ]; exact List.mem_append_left _ hce
  · have hcl : c ∈ (seatSt had lot i).left := by
      rw [seat_left, List.mem_filter]
      exact ⟨mem_rngI.2 hc, by simpa using hce⟩
    have hne : (seatSt had lot i).left ≠ [] := fun e => by rw [e] at hcl; cases hcl
    obtain ⟨w1, w2⟩ := seat_win hl hne
    have w3 : winL had lot i ∈ amL had lot i := w1
    obtain ⟨-, -, -, c3⟩ := am_mem w3
    have hca : c ∈ amL had lot i := bestL_mem.2 ⟨hcl, fun y hy => by have := c3 y hy; omega⟩
    have h1 : ¬ 1 < (amL had lot i).length := fun hh => by
      have : i ∈ tieR had lot n := tieR_mem.2 ⟨hi, hh⟩
      rw [ties_eq, List.map_eq_nil_iff] at ht
      rw [ht] at this
      cases this
    have e : c = winL had lot i := by
      obtain ⟨a, ha, ea⟩ := List.getElem_of_mem hca
      obtain ⟨b, hb, eb⟩ := List.getElem_of_mem w3
      obtain rfl : a = 0 := by omega
      obtain rfl : b = 0 := by omega
      rw [← ea, ← eb]
    rw [seat_succ, e]
    simp
end Go.Proofs.YtogngcbflhdadaaGreat

/- The law SingleTies: its walk (printed by genties.py). -/
namespace Go.Proofs.YtogngcbflhdadaaGreat
open Go Go.RowKit Go.Shelf

set_option maxHeartbeats 16000000 in
set_option maxRecDepth 100000 in
theorem law_sties (u v : Value) (rule : Int) (p : Prof) (seats : Int) (lot : List Int) (w : World) (_ : (Lit.int .i64 rule).wf = true) (h : VProf Any w u p) (_ : (Lit.int .i64 seats).wf = true) (hv : RInts Any w v lot) :
    Calls Tryz.prog 8 #[.int .i64 rule, u, .int .i64 seats, v] w fun e w' => e = .returned (.bool true) ∧ Below w.heap.size w w' := by
  have h1 := h
  obtain ⟨a, m, c, rfl⟩ := h.open
  obtain ⟨a2, c2, rfl, -, -⟩ := RSl.shape hv
  obtain ⟨W0, hW0⟩ : ∃ W0, W0 = w.alloc (.cells #[.int .i64 p.cands, .int .u8 p.kind, .slice a m c] 24) := ⟨_, rfl⟩
  have hb0 : Below w.heap.size w W0 := by rw [hW0]; exact below_new w _
  have hg0 : W0.heap[w.heap.size]? = some (.cells #[.int .i64 p.cands, .int .u8 p.kind, .slice a m c] 24 (0, 0)) := by rw [hW0]; exact box_new w _
  have hP := h1.same (.of_below hb0)
  have hL := hv.same (.of_below hb0)
  have hMay := l11May Any Any rule _ _ p seats lot W0 hP hL
  by_cases hm : mayS rule p seats lot = true
  · obtain ⟨r, rfl, hr, h0⟩ := mayS_true hm
    rw [hm] at hMay
    obtain ⟨C, sn, hCn, rfl, hF⟩ := facts h0
    have hll : lot.length = C := hF.isLot.1
    have hlo : lot.length ≤ 1000000 := by have := hF.c10; omega
    obtain ⟨had, hhad⟩ : ∃ l, hadL r p.rows C = l := ⟨_, rfl⟩
    have hF0 := hF
    rw [hhad] at hF
    obtain ⟨el, hel⟩ : ∃ l, (seatSt had lot sn).elected = l := ⟨_, rfl⟩
    obtain ⟨ts, hts⟩ : ∃ l, (seatSt had lot sn).ties = l := ⟨_, rfl⟩
    obtain ⟨nt, hnt⟩ : ∃ n, ts.length = n := ⟨_, rfl⟩
    have hO := hF.out
    rw [hel, hts] at hO
    have hell : el.length = sn := by rw [← hel]; exact hF.el
    have hc10 := hF.c10
    have hs1 := hF.s
    have hsn10 : sn ≤ 10 := by omega
    have hC10 : C ≤ 10 := by omega
    have hnts : nt ≤ sn := by rw [← hnt, ← hts]; exact hF.ties
    have hCt := fun (W : World) (hW : Below W0.heap.size W0 W) => l11CountL r hr Any Any _ _ p sn lot W _ (hP.same (.of_below hW)) (hL.same (.of_below hW)) hlo h0 hO hell rfl hnt
    have hLo := fun (W : World) (hW : Below W0.heap.size W0 W) => hL.same (.of_below hW)
    have hFlot : LotOf lot had.length := by rw [hF.hlen]; exact hF.isLot
    obtain ⟨J, hT, hJ⟩ := ties_index hFlot (n := sn) (by rw [hF.hlen]; omega)
    have hNT := fun (i : Nat) (c : Int) (h1 : ts = []) (h2 : i < sn) h3 h4 => no_tie hFlot (n := sn) (i := i) (c := c) (by rw [hts]; exact h1) h2 h3 h4
    have hwin : ∀ i (h : i < el.length), el[i] = winL had lot i := fun i h => by
      have h2 : i < (seatSt had lot sn).elected.length := by rw [hel]; exact h
      have := seat_get had lot (n := sn) (by omega) h2
      simp only [hel] at this
      exact this
    have htake : ∀ i, i ≤ sn → el.take i = (seatSt had lot i).elected := fun i h => by rw [← hel]; exact seat_take had lot sn h
    have hnd : el.Nodup := by rw [← hel]; exact hF.nodup
    have hrange : ∀ x ∈ el, 0 ≤ x ∧ x < C := by rw [← hel]; exact hF.range
    replace hT : ∀ i (h : i < ts.length), TieAt had lot sn ts[i] (J i) := by subst hts; exact hT
    replace hJ : ∀ i k, i < k → k < ts.length → J i < J k := by subst hts; exact hJ
    rw [hF.hlen] at hNT
    have HT := Lib.hid hT; have HJ := Lib.hid hJ; have HNT := Lib.hid hNT; have Hwin := Lib.hid hwin; have Htake := Lib.hid htake; have Hnd := Lib.hid hnd; have Hrange := Lib.hid hrange
    clear hT hJ hNT hwin htake hnd hrange hFlot
    have hs0 : 0 < sn := by omega
    obtain ⟨kk, hkk⟩ : ∃ x, p.kind = x := ⟨_, rfl⟩
    simp only [hCn, hkk, hll] at hMay hCt hLo hW0 hg0 ⊢
    rw [hW0] at hMay
    have HM := Lib.hid hMay; have HCt := Lib.hid hCt; have HLo := Lib.hid hLo; have HW0 := Lib.hid hW0; have G0 := Lib.hid hg0; have Hb0 := Lib.hid hb0; have HF := Lib.hid hF; have Hll := Lib.hid hll; have Hell := Lib.hid hell; have Hnt := Lib.hid hnt; have Hel := Lib.hid hel; have Hts := Lib.hid hts
    clear hMay hCt hLo hW0 hg0 hb0 hF hF0 hll hell hnt hel hts hP hL h h1 hv hm h0 hO hhad hkk hCn hlo hc10 hs1
    have st0 := Lib.hid True.intro
    have hntI : ¬ ((nt : Int) > sn) := by omega
    have hntJ : ¬ ((sn : Int) < nt) := by omega
    have hntK : ¬ (sn < nt) := by omega
    have hntL : decide (sn < nt) = false := decide_eq_false hntK
    have hneS : ((sn : Int) != (sn : Int)) = false := by simp
    go_enter Tryz.func8, Tryz.ntmps8
    go_wp2_with (first
      | (have := st2; go_at_call 27; clear st2; refine (l11Had Any _ _ _ C (w2.alloc (.cells #[.slice b21 sn c21, .slice b22 1 c22, .slice b23 nt c23] 32)) (HV2.out.same (.of_below (below_new _ _))) rfl (by rw [List.length_map]; exact HF.out.hlen)).mono ?_; rintro e w3 ⟨ax, cx, rfl, kx, hb⟩; have C3 := Lib.hid (bel_st (B := w2.heap.size) (w := w2) (by go_grown) hb (by go_size)); have hq0 := bt q0 C3.out; have HX := Lib.hid kx; have GO := Lib.hid (show w3.heap[w2.heap.size]? = some (.cells #[.slice b21 sn c21, .slice b22 1 c22, .slice b23 nt c23] 32 (0, 0)) from lay_at (w := w2) (os := [.cells #[.slice b21 sn c21, .slice b22 1 c22, .slice b23 nt c23] 32]) hb 0 rfl); clear hb kx q0 pa1 pb1 pc1 pl1 pa2 pb2 pc2 pl2; have q0 := hq0; clear hq0; obtain ⟨o0, o1, o2, ol⟩ := box3 GO.out (Below.refl _ w3); have st3 := Lib.hid True.intro; clear this)
      | (have := st1; go_at_call 30; clear st1; refine (HCt.out _ q0).mono ?_; rintro e w2 ⟨b21, c21, b22, c22, b23, c23, rfl, kv, hb⟩; have C2 := Lib.hid hb; replace q0 := bt q0 hb; obtain ⟨pa2, pb2, pc2, pl2⟩ := box3 G0.out q0; have HV2 := Lib.hid kv; clear kv hb; have st2 := Lib.hid True.intro; clear this)
      | (have := st0; go_at_call 25; clear st0; refine HM.out.mono ?_; rintro e w1 ⟨rfl, hb⟩; rw [← HW0.out] at hb; have q0 := hb; obtain ⟨pa1, pb1, pc1, pl1⟩ := box3 G0.out q0; clear hb; have st1 := Lib.hid True.intro; clear this))
    clear o0 o1 o2 ol st3
    obtain ⟨q1, -, q3⟩ := HV2.out.parts
    have HEl : Hid (RInts Any w3 (.slice b21 sn c21) el) := Lib.hid (q1.same (.of_below C3.out))
    have HTi : Hid (RTies Any w3 (.slice b23 nt c23) ts) := Lib.hid (q3.same (.of_below C3.out))
    have HQ := Lib.hid q0
    clear q1 q3 q0 hntI hntJ hntK hntL
    go_loopw [13, 14, 15, 16, 17] (fun av i _ _ _ wr => ∃ aN iN : Nat, aN < sn ∧ iN ≤ nt ∧ av = .int .i64 aN ∧ i = .int .i64 iN ∧ Hid (∀ j, iN ≤ j → j < nt → aN ≤ J j) ∧ Hid (Below w3.heap.size w3 wr)) (fun _ i _ _ _ _ => nt - (intOf i).toNat)
    case atStart => exact ⟨0, 0, hs0, Nat.zero_le _, rfl, rfl, Lib.hid (fun _ _ _ => Nat.zero_le _), Lib.hid (Below.refl _ _)⟩
    case round =>
      obtain ⟨aN, iN, haN, hiN, rfl, rfl, hJa, hbr⟩ := hrel
      obtain ⟨wo, hwo⟩ : ∃ q, q = wr := ⟨_, rfl⟩
      rw [← hwo] at hbr ⊢
      clear hwo
      obtain ⟨o0, o1, o2, ol⟩ := box3 GO.out hbr.out
      by_cases hlt : iN < nt
      · have hltI : (iN : Int) < nt := by omega
        have hli : iN < ts.length := by rw [Hnt.out]; exact hlt
        have hT := HT.out iN hli
        obtain ⟨tb, toff, tc, td, rfl, -, tbl, t1, t2, hd⟩ := RSl.at2 (HTi.out.same (.of_below hbr.out)) iN hli
        obtain ⟨ta, tcap, rfl, rfl, hnaL, hwf, hAm⟩ := hd.open
        obtain ⟨⟨am, ch⟩, ht⟩ : ∃ t, ts[iN] = t := ⟨_, rfl⟩
        simp only [ht] at t1 t2 hT hAm hwf hnaL
        obtain ⟨na, hna⟩ : ∃ n, am.length = n := ⟨_, rfl⟩
        have hcand := hT.cand
        rw [HF.out.hlen] at hcand
        simp only at hcand
        obtain ⟨cn, hcn⟩ : ∃ n : Nat, ch = (n : Int) := ⟨ch.toNat, by omega⟩
        subst hcn
        have h2na : 2 ≤ na := by rw [← hna]; exact hT.two
        have hch : hasI el (cn : Int) = true := hasI_mem.2 (by
          have h5 := win_mem (had := had) (lot := lot) hT.lt
          rw [← hT.win, Hel.out] at h5
          exact h5)
        have hfi : firstL lot am = (cn : Int) := hT.first
        rw [hna] at t1 hAm hnaL
        obtain ⟨W4, hW4⟩ : ∃ q, q = wo.alloc (.cells #[.slice ta na tcap, .int .i64 (cn : Int)] 72) := ⟨_, rfl⟩
        have hb4 : Below wo.heap.size wo W4 := by rw [hW4]; exact below_new _ _
        have g4 : W4.heap[wo.heap.size]? = some (.cells #[.slice ta na tcap, .int .i64 (cn : Int)] 72 (0, 0)) := by rw [hW4]; exact box_new _ _
        have hb34 := bt hbr.out hb4
        obtain ⟨n0, n1, nl⟩ := box2 g4 (Below.refl _ _)
        obtain ⟨r0, r1, r2, rl⟩ := box3 GO.out hb34
        have hIn := fun q => in_b Any _ el (cn : Int) (ext W4 q) ((HEl.out.same (.of_below hb34)).same (.of_below (below_ext W4 q)))
        rw [hch] at hIn
        have hFi := fun q => first_b Any Any _ _ lot am (ext W4 q) ((HLo.out W4 (bt HQ.out hb34)).same (.of_below (below_ext W4 q))) ((hAm.same (.of_below hb4)).same (.of_below (below_ext W4 q)))
        rw [hfi] at hFi
        have e0 := fun q => cell_ext (w := W4) n0 q
        have e1 := fun q => cell_ext (w := W4) n1 q
        have e2 := fun q => cell_ext (w := W4) r0 q
        have HIn := Lib.hid hIn; have HFi := Lib.hid hFi; have HAm := Lib.hid (hAm.same (.of_below hb4)); have HTt := Lib.hid hT; have G4 := Lib.hid g4; have HW4 := Lib.hid hW4; have Hna := Lib.hid hna; have H34 := Lib.hid hb34
        have hself : ((cn : Int) != (cn : Int)) = false := by simp
        have h2I : ¬ ((na : Int) < 2) := by omega
        have h2D : decide ((na : Int) < 2) = false := decide_eq_false h2I
        clear hIn hFi hAm hT g4 hW4 hna hd hch hfi hwf hb4 n0 n1 nl r0 r1 r2 rl hb34 ht
        go_wp2
        rw [← HW4.out]
        clear HW4
        refine wp_region_ext (by kernel_rfl) (by kernel_rfl) ?_
        repeat (go_big_quiet_step (first
          | (go_at_call 32; have hh := HIn.out; exact calls_ext (v := .bool true) (hh _))
          | (go_at_call 38; have hh := HFi.out; exact calls_ext (v := .int .i64 (cn : Int)) (hh _))))
        refine wpQuiet_nil ?_
        intro w5 hw'
        have hb5 : Below W4.heap.size W4 w5 := by obtain ⟨q, rfl⟩ := hw'; exact below_ext W4 q
        have H5 := Lib.hid hb5
        clear hw' e0 e1 e2 HIn HFi hb5 o0 o1 o2 ol t1 t2 h2I h2D
        go_wp2
        go_loopw [16, 17] (fun k _ wr => ∃ kN : Nat, kN ≤ na ∧ k = .int .i64 kN ∧ Hid (Below w5.heap.size w5 wr)) (fun k _ _ => na - (intOf k).toNat)
        case atStart => exact ⟨0, Nat.zero_le _, rfl, Lib.hid (Below.refl _ _)⟩
        case round =>
          obtain ⟨kN, hkN, rfl, hb6⟩ := hrel
          have hb46 := bt H5.out hb6.out
          obtain ⟨n0, n1, nl⟩ := box2 G4.out hb46
          have hb36 := bt H34.out hb46
          obtain ⟨pa, pb, pc, pl⟩ := box3 G0.out (bt HQ.out hb36)
          by_cases hltk : kN < na
          · have hltK : (kN : Int) < na := by omega
            have hkl : kN < am.length := by rw [Hna.out]; exact hltk
            obtain ⟨lb, loff, lc, rfl, -, lbl, lcl, lhd⟩ := RSl.at1 (HAm.out.same (.of_below hb46)) kN hkl
            obtain ⟨rfl, -⟩ := lhd.open
            have hrg := HTt.out.range kN hkl
            have hpt := HTt.out.pts kN hkl
            have hasc := HTt.out.asc kN hkl
            rw [HF.out.hlen] at hrg
            simp only at hrg hpt hasc
            obtain ⟨yn, hyn⟩ : ∃ n : Nat, am[kN] = (n : Int) := ⟨(am[kN]).toNat, by omega⟩
            rw [hyn] at lcl hrg hpt hasc
            simp only [gI, Int.toNat_natCast] at hpt
            have hcand := HTt.out.cand
            rw [HF.out.hlen] at hcand
            simp only at hcand
            have hxl : (had.map whole).length = C := by rw [List.length_map]; exact HF.out.hlen
            obtain ⟨xb, xoff, xc, xd, xe, rfl, -, -, x1, x2, x3, hx⟩ := RSl.at3 HX.out yn (by omega)
            obtain ⟨xb', xoff', xc', xd', xe', eb, -, -, z1, z2, z3, hz⟩ := RSl.at3 HX.out cn (by omega)
            simp only [Option.some.injEq, Addr.mk.injEq, and_true] at eb
            obtain ⟨rfl, rfl⟩ := eb
            rw [whole_at] at hx hz
            rw [hpt] at hx
            obtain ⟨xv, hxv⟩ : ∃ q, whole (had.getD cn 0) = q := ⟨_, rfl⟩
            rw [hxv] at hx hz
            have vx := (VRt.of hx).same (w' := wr) (.of_below hb36)
            have vz := (VRt.of hz).same (w' := wr) (.of_below hb36)
            have hSm := fun q => r04Same_eq Any Any _ _ xv (ext wr q) (vx.same (.of_below (below_ext wr q))) (vz.same (.of_below (below_ext wr q)))
            obtain ⟨k1, j1, k2, j2, rfl, rfl, rfl, -, -⟩ := hx.open
            obtain ⟨k3, j3, k4, j4, rfl, rfl, rfl, -, -⟩ := hz.open
            have hS3 := Same.of_below (S := Any) hb36
            have e0 := fun q => cell_ext (w := wr) n0 q
            have e1 := fun q => cell_ext (w := wr) n1 q
            have e2 := fun q => cell_ext (w := wr) pa q
            have e3 := fun q => cell_ext (w := wr) (hS3.cell trivial x1) q
            have e4 := fun q => cell_ext (w := wr) (hS3.cell trivial x2) q
            have e5 := fun q => cell_ext (w := wr) (hS3.cell trivial x3) q
            have e6 := fun q => cell_ext (w := wr) (hS3.cell trivial z1) q
            have e7 := fun q => cell_ext (w := wr) (hS3.cell trivial z2) q
            have e8 := fun q => cell_ext (w := wr) (hS3.cell trivial z3) q
            have d0 : ¬ ((yn : Int) < 0) := by omega
            have d0' : decide ((yn : Int) < 0) = false := decide_eq_false d0
            have d1 : ¬ ((yn : Int) ≥ C) := by omega
            have d1' : decide ((yn : Int) ≥ C) = false := decide_eq_false d1
            have d2 : ¬ ((C : Int) ≤ yn) := by omega
            have d2' : decide ((C : Int) ≤ yn) = false := decide_eq_false d2
            have d3 : ¬ (C ≤ yn) := by omega
            have d3' : decide (C ≤ yn) = false := decide_eq_false d3
            have d4 : yn < C := by omega
            have ry : (yn : Int) < C := hrg.2
            have rc : (cn : Int) < C := hcand.2
            have HSm := Lib.hid hSm
            have hS46 := Lib.hid hb46
            clear hSm vx vz hx hz x1 x2 x3 z1 z2 z3 hS3 hxv hpt hrg hcand lhd hxl hyn
            rcases Nat.eq_zero_or_pos kN with hk0 | hkp
            · subst hk0
              simp only [Nat.add_zero] at lcl
              clear hasc hb46
              go_wp2
              refine wp_region_ext (by kernel_rfl) (by kernel_rfl) ?_
              repeat (go_big_quiet_step ((go_at_call 28; have hh := HSm.out; exact calls_ext (v := .bool true) (hh _))))
              refine wpQuiet_nil ?_
              intro w7 hw'
              have hb7 : Below wr.heap.size wr w7 := by obtain ⟨q, rfl⟩ := hw'; exact below_ext wr q
              clear hw' e0 e1 e2 e3 e4 e5 e6 e7 e8 HSm
              go_wp2
              exact ⟨⟨0 + 1, by omega, by go_num, Lib.hid (bt hb6.out hb7)⟩, by simp [intOf]; omega⟩
            · have hkm : kN - 1 < am.length := by omega
              obtain ⟨lb', loff', lc', eb, -, -, lcl', lhd'⟩ := RSl.at1 (HAm.out.same (.of_below hb46)) (kN - 1) hkm
              simp only [Option.some.injEq, Addr.mk.injEq, and_true] at eb
              obtain ⟨rfl, rfl⟩ := eb
              obtain ⟨rfl, -⟩ := lhd'.open
              have hasc := hasc hkp
              obtain ⟨z, hzz⟩ : ∃ z, am[kN - 1] = z := ⟨_, rfl⟩
              rw [hzz] at lcl' hasc
              have e9 := fun q => cell_ext (w := wr) lcl' q
              have i1 : ((kN : Int) - 1).toNat = kN - 1 := by omega
              have i2 : (0 : Int) ≤ (kN : Int) - 1 := by omega
              have i3 : (kN : Int) - 1 < na := by omega
              have i4 : IntKind.i64.wrap ((kN : Int) - 1) = (kN : Int) - 1 := by rw [IntKind.wrap_i64]; omega
              have i5 : (kN : Int) > 0 := by omega
              have i6 : decide ((kN : Int) > 0) = true := decide_eq_true i5
              have i7 : ¬ ((yn : Int) ≤ z) := by omega
              have i8 : decide ((yn : Int) ≤ z) = false := decide_eq_false i7
              clear hasc hb46 lhd' hzz
              go_wp2
              refine wp_region_ext (by kernel_rfl) (by kernel_rfl) ?_
              repeat (go_big_quiet_step ((go_at_call 28; have hh := HSm.out; exact calls_ext (v := .bool true) (hh _))))
              refine wpQuiet_nil ?_
              intro w7 hw'
              have hb7 : Below wr.heap.size wr w7 := by obtain ⟨q, rfl⟩ := hw'; exact below_ext wr q
              clear hw' e0 e1 e2 e3 e4 e5 e6 e7 e8 e9 HSm
              go_wp2
              exact ⟨⟨kN + 1, by omega, by go_num, Lib.hid (bt hb6.out hb7)⟩, by simp [intOf]; omega⟩
          · obtain rfl : kN = na := by omega
            go_wp2
            clear n0 n1 nl pa pb pc pl
            obtain ⟨w7, hw7⟩ : ∃ q, q = wr := ⟨_, rfl⟩
            rw [← hw7] at hb46 hb36 hb6 ⊢
            clear hw7
            have HB46 := Lib.hid hb46; have HB36 := Lib.hid hb36
            clear hb46 hb36 hltk hb6
            go_loopw [13] (fun av wr => ∃ a2 : Nat, a2 ≤ J iN ∧ av = .int .i64 a2 ∧ Hid (Below w7.heap.size w7 wr)) (fun av _ => sn - (intOf av).toNat)
            case atStart => exact ⟨aN, hJa.out iN (Nat.le_refl _) hlt, rfl, Lib.hid (Below.refl _ _)⟩
            case round =>
              obtain ⟨a2, ha2, rfl, hb8⟩ := hrel
              have hJs := HTt.out.lt
              have hb38 := bt HB36.out hb8.out
              obtain ⟨n0, n1, nl⟩ := box2 G4.out (bt HB46.out hb8.out)
              obtain ⟨o0, o1, o2, ol⟩ := box3 GO.out hb38
              have hal : a2 < el.length := by rw [Hell.out]; omega
              obtain ⟨lb, loff, lc, rfl, -, lbl, lcl, lhd⟩ := RSl.at1 (HEl.out.same (.of_below hb38)) a2 hal
              obtain ⟨rfl, -⟩ := lhd.open
              have haI : (a2 : Int) < sn := by omega
              have haD : decide ((a2 : Int) < sn) = true := decide_eq_true haI
              have hJl : J iN < el.length := by rw [Hell.out]; exact hJs
              have hwJ : el[J iN] = (cn : Int) := (Hwin.out _ hJl).trans HTt.out.win.symm
              have e0 := fun q => cell_ext (w := wr) o0 q
              have e1 := fun q => cell_ext (w := wr) n1 q
              by_cases haj : a2 = J iN
              · have hea : el[a2] = (cn : Int) := by simp only [haj]; exact hwJ
                rw [hea] at lcl
                have e2 := fun q => cell_ext (w := wr) lcl q
                have Haj := Lib.hid haj
                clear hea hwJ lhd hJl haj
                go_wp2
                refine wp_region_ext (by kernel_rfl) (by kernel_rfl) ?_
                repeat (go_big_quiet_step (fail))
                refine wpQuiet_nil ?_
                intro w9 hw'
                have hb9 : Below wr.heap.size wr w9 := by obtain ⟨q, rfl⟩ := hw'; exact below_ext wr q
                clear hw' e0 e1 e2
                go_wp2
                exact ⟨⟨a2, iN + 1, by omega, by omega, rfl, by go_num, Lib.hid (fun j h1 h2 => by have := HJ.out iN j (by omega) (by rw [Hnt.out]; exact h2); have := Haj.out; omega), Lib.hid (bt HB36.out (bt hb8.out hb9))⟩, by simp [intOf]; omega⟩
              · have hea : el[a2] ≠ (cn : Int) := fun e => haj ((List.getElem_inj Hnd.out).1 (e.trans hwJ.symm))
                obtain ⟨z, hz⟩ : ∃ z, el[a2] = z := ⟨_, rfl⟩
                rw [hz] at lcl hea
                have e2 := fun q => cell_ext (w := wr) lcl q
                have hz2 : (z != (cn : Int)) = true := by simpa using hea
                clear hea hwJ lhd hJl hz
                go_wp2
                refine wp_region_ext (by kernel_rfl) (by kernel_rfl) ?_
                repeat (go_big_quiet_step (fail))
                refine wpQuiet_nil ?_
                intro w9 hw'
                have hb9 : Below wr.heap.size wr w9 := by obtain ⟨q, rfl⟩ := hw'; exact below_ext wr q
                clear hw' e0 e1 e2
                go_wp2
                exact ⟨⟨a2 + 1, by omega, by go_num, Lib.hid (bt hb8.out hb9)⟩, by simp [intOf]; omega⟩
      · obtain rfl : nt = iN := by omega
        have q0o := bt HQ.out hbr.out
        have haI : ¬ ((aN : Int) ≥ sn) := by omega
        by_cases hn0 : nt = 0
        · have hts : ts = [] := List.eq_nil_of_length_eq_zero (by rw [Hnt.out]; exact hn0)
          have hntI : ¬ ((nt : Int) > 0) := by omega
          have Hnil := Lib.hid hts
          clear hts hlt hiN
          go_wp2
          clear o0 o1 o2 ol hJa
          have HB := Lib.hid hbr.out
          clear hbr q0o
          go_loopw [18, 19, 20, 21] (fun i _ _ _ wr => ∃ iN : Nat, iN ≤ sn ∧ i = .int .i64 iN ∧ Hid (Below wo.heap.size wo wr)) (fun i _ _ _ _ => sn - (intOf i).toNat)
          case atStart => exact ⟨0, Nat.zero_le _, rfl, Lib.hid (Below.refl _ _)⟩
          case round =>
            obtain ⟨iN, hiN, rfl, hbo⟩ := hrel
            by_cases hlti : iN < sn
            · have hltI : (iN : Int) < sn := by omega
              go_wp2
              obtain ⟨wi, hwi⟩ : ∃ q, q = wr := ⟨_, rfl⟩
              rw [← hwi] at hbo ⊢
              clear hwi
              go_loopw [19, 20, 21] (fun i _ _ wr => ∃ kN : Nat, kN ≤ C ∧ i = .int .i64 kN ∧ Hid (Below wo.heap.size wo wr)) (fun i _ _ _ => C - (intOf i).toNat)
              case atStart => exact ⟨0, Nat.zero_le _, rfl, hbo⟩
              case round =>
                clear hbo
                obtain ⟨kN, hkn, rfl, hbi⟩ := hrel
                have hb3i := bt HB.out hbi.out
                obtain ⟨pa, pb, pc, pl⟩ := box3 G0.out (bt HQ.out hb3i)
                by_cases hltk : kN < C
                · have hltK : (kN : Int) < C := by omega
                  obtain ⟨o0, o1, o2, ol⟩ := box3 GO.out hb3i
                  have hil : iN < el.length := by rw [Hell.out]; exact hlti
                  have hq1 : RInts Any wr (.slice b21 sn c21) el := HEl.out.same (w' := wr) (.of_below hb3i)
                  have hcp := RSl.cap hq1
                  rw [Hell.out] at hcp
                  have hq1t : RInts Any wr (.slice b21 (iN + 1) c21) (el.take (iN + 1)) := RSl.take hq1 (iN + 1) (by rw [Hell.out]; omega)
                  obtain ⟨ob, ooff, oc, rfl, -, obl, ocl, ohd⟩ := RSl.at1 hq1 iN hil
                  obtain ⟨rfl, -⟩ := ohd.open
                  have ra := Hrange.out _ (List.getElem_mem hil)
                  have hwn := Hwin.out iN hil
                  obtain ⟨an, han⟩ : ∃ n : Nat, el[iN] = (n : Int) := ⟨(el[iN]).toNat, by omega⟩
                  rw [han] at ocl ra hwn
                  have hxl : (had.map whole).length = C := by rw [List.length_map]; exact HF.out.hlen
                  obtain ⟨xb, xoff, xc, xd, xe, rfl, -, -, x1, x2, x3, hx⟩ := RSl.at3 HX.out an (by omega)
                  obtain ⟨xb', xoff', xc', xd', xe', eb, -, -, z1, z2, z3, hz⟩ := RSl.at3 HX.out kN (by omega)
                  simp only [Option.some.injEq, Addr.mk.injEq, and_true] at eb
                  obtain ⟨rfl, rfl⟩ := eb
                  rw [whole_at] at hx hz
                  have g1 := HF.out.pts an
                  have g2 := HF.out.pts kN
                  have hno := HNT.out iN (kN : Int) Hnil.out hlti ⟨by omega, by omega⟩
                  rw [← hwn] at hno
                  simp only [gI, Int.toNat_natCast] at hno
                  obtain ⟨ha, hha⟩ : ∃ n : Nat, had.getD an 0 = (n : Int) := ⟨(had.getD an 0).toNat, by omega⟩
                  obtain ⟨hb, hhb⟩ : ∃ n : Nat, had.getD kN 0 = (n : Int) := ⟨(had.getD kN 0).toNat, by omega⟩
                  rw [hha] at hx g1 hno
                  rw [hhb] at hz g2 hno
                  have vx := (VRt.of hx).same (w' := wr) (.of_below hb3i)
                  have vz := (VRt.of hz).same (w' := wr) (.of_below hb3i)
                  have hCmp := fun q => ratCmpW Any Any _ _ ha hb (ext wr q) (vx.same (.of_below (below_ext wr q))) (vz.same (.of_below (below_ext wr q))) (by omega) (by omega)
                  have hS3 := Same.of_below (S := Any) hb3i
                  obtain ⟨k1, j1, k2, j2, rfl, rfl, rfl, -, -⟩ := hx.open
                  obtain ⟨k3, j3, k4, j4, rfl, rfl, rfl, -, -⟩ := hz.open
                  have e1 := fun q => cell_ext (w := wr) ocl q
                  have e2 := fun q => cell_ext (w := wr) o0 q
                  have e3 := fun q => cell_ext (w := wr) (hS3.cell trivial x1) q
                  have e4 := fun q => cell_ext (w := wr) (hS3.cell trivial x2) q
                  have e5 := fun q => cell_ext (w := wr) (hS3.cell trivial x3) q
                  have e6 := fun q => cell_ext (w := wr) (hS3.cell trivial z1) q
                  have e7 := fun q => cell_ext (w := wr) (hS3.cell trivial z2) q
                  have e8 := fun q => cell_ext (w := wr) (hS3.cell trivial z3) q
                  have ran : (an : Int) < C := ra.2
                  obtain ⟨cN, hcN⟩ : ∃ c, cmpN ha hb = c := ⟨_, rfl⟩
                  have hcase : cN = 1 ∨ (cN ≤ 0 ∧ ha ≤ hb) := by
                    rw [← hcN, cmpN]
                    by_cases h3 : ha < hb
                    · rw [if_pos h3]; exact .inr ⟨by omega, by omega⟩
                    · rw [if_neg h3]
                      by_cases h4 : hb < ha
                      · rw [if_pos h4]; exact .inl rfl
                      · rw [if_neg h4]; exact .inr ⟨by omega, by omega⟩
                  rw [hcN] at hCmp
                  have HCmp := Lib.hid hCmp
                  have Hno := Lib.hid hno
                  have HIt := Lib.hid hq1t
                  clear hCmp hno han hha hhb g1 g2 hx hz vx vz x1 x2 x3 z1 z2 z3 hS3 hxl hcN ohd hq1 hq1t hwn ra
                  go_wp2
                  refine wp_region_ext (by kernel_rfl) (by kernel_rfl) ?_
                  repeat (go_big_quiet_step ((go_at_call 37; have hh := HCmp.out; exact calls_ext (v := .tuple #[.int .i64 cN, .int .i64 0]) (hh _))))
                  refine wpQuiet_nil ?_
                  intro w8 hw'
                  have hb8 : Below wr.heap.size wr w8 := by obtain ⟨q, rfl⟩ := hw'; exact below_ext wr q
                  clear hw' e1 e2 e3 e4 e5 e6 e7 e8 HCmp pa pb pc pl o0 o1 o2 ol
                  have HB8 := Lib.hid (bt hbi.out hb8)
                  rcases hcase with rfl | ⟨hc0, hle⟩
                  · clear hb8
                    go_wp2
                    exact ⟨⟨kN + 1, by omega, by go_num, HB8⟩, by simp [intOf]; omega⟩
                  · obtain ⟨o0, o1, o2, ol⟩ := box3 GO.out (bt hb3i hb8)
                    have hm : hasI (el.take (iN + 1)) (kN : Int) = true := hasI_mem.2 (by
                      rw [Htake.out (iN + 1) (by omega)]
                      exact Hno.out (by omega))
                    have hIn := in_b Any _ _ (kN : Int) w8 (HIt.out.same (.of_below hb8))
                    rw [hm] at hIn
                    have HIn := Lib.hid hIn
                    have i1 : ((iN : Int) + 1).toNat = iN + 1 := by omega
                    have i2 : (0 : Int) ≤ (iN : Int) + 1 := by omega
                    have i3 : (iN : Int) + 1 ≤ c21 := by omega
                    have i4 : IntKind.i64.wrap ((iN : Int) + 1) = (iN : Int) + 1 := by rw [IntKind.wrap_i64]; omega
                    have i5 : iN + 1 ≤ c21 := by omega
                    clear hIn hm hle hb8
                    go_wp2_with (go_at_call 32; refine HIn.out.mono ?_; rintro e w9 ⟨rfl, hb⟩; have HB9 := Lib.hid (bt HB8.out hb); clear hb)
                    exact ⟨⟨kN + 1, by omega, by go_num, HB9⟩, by simp [intOf]; omega⟩
                · obtain rfl : kN = C := by omega
                  go_wp2
                  exact ⟨⟨iN + 1, by omega, by go_num, hbi⟩, by simp [intOf]; omega⟩
            · go_wp2_with (go_at_call 12; refine (wakes11 _).mono ?_; rintro e w7 ⟨rfl, hb⟩)
              go_ret
              exact ⟨rfl, bt Hb0.out (bt HQ.out (bt HB.out (bt hbo.out hb)))⟩
        · have hntI : (nt : Int) > 0 := by omega
          go_wp2_with (go_at_call 12; refine (wakes11 _).mono ?_; rintro e w7 ⟨rfl, hb⟩)
          go_ret
          exact ⟨rfl, bt Hb0.out (bt q0o hb)⟩
  · have hm' : mayS rule p seats lot = false := by simpa using hm
    rw [hm', hW0] at hMay
    obtain ⟨cc, hcc⟩ : ∃ x, p.cands = x := ⟨_, rfl⟩
    obtain ⟨kk, hkk⟩ : ∃ x, p.kind = x := ⟨_, rfl⟩
    obtain ⟨nl, hnl⟩ : ∃ x, lot.length = x := ⟨_, rfl⟩
    rw [hcc, hkk, hnl] at hMay
    rw [hcc, hkk] at hW0
    rw [hcc, hkk, hnl]
    have HM := Lib.hid hMay; have Hb0 := Lib.hid hb0; have HW0 := Lib.hid hW0
    clear hMay hb0 hW0 hP hL h h1 hv hm hm' hg0 hcc hkk hnl
    go_enter Tryz.func8, Tryz.ntmps8
    go_wp2_with (first
      | (go_at_call 25; refine HM.out.mono ?_; rintro e w1 ⟨rfl, hb⟩; rw [← HW0.out] at hb; have hq := bt Hb0.out hb; clear hb)
      | (go_at_call 12; refine (wakes11 _).mono ?_; rintro e w2 ⟨rfl, hb⟩))
    go_ret
    exact ⟨rfl, bt hq hb⟩
end Go.Proofs.YtogngcbflhdadaaGreat

namespace Go.Proofs.YtogngcbflhdadaaGreat
open Go Go.RowKit Go.ChangeShapes Go.WideShapes Go.ChangeAt

set_option maxRecDepth 100000 in
theorem singleTies_lifted (os : Os) (started : os.Started) (H : Type) (enc : TypeId × Value → H) :
    ReturnsInHanded {} Tryz.checked os 8 .any (Rows.singleTiesSpec.pre6 enc Tryz.prog Tryz.f8 Rows.singleTiesRow.domain false) (Rows.singleTiesSpec.post enc Tryz.prog Tryz.f8 false true false false) := by
  refine returnsInHanded_of_change_sized (C := Tryz.checked) Tryz.own started (by kernel_rfl) Tryz.func8
    (ChangeSpec.witness6 (enc := enc) (C := Tryz.checked) false ⟨#[], #[.int .i64 0, .agg #[.int .i64 0, .int .u8 0, .slice none 0 0], .int .i64 0, .slice none 0 0], []⟩ 8 (by kernel_rfl) (by kernel_rfl) (by kernel_rfl) (by kernel_rfl)) ?_
  intro W base args ds gs before hval0 hW hcnd hsz0 _
  have hval : ∀ (j : Nat) t v, Tryz.f8.params[j]? = some t → args[j]? = some v → Value.okWide Tryz.prog W .any base t v := hval0
  have hsz : (DataW.weightsEach Tryz.prog (Tryz.f8.params.toList ++ Rows.singleTiesSpec.plain.varTypes Tryz.prog) (ds ++ gs)).all (· ≤ reachBytes) = true := hsz0
  have hW' := hW
  obtain ⟨p, q, hA0, hV, rfl, hfz, hnd⟩ := hW
  have hA : DataW.TrodAll enc Tryz.prog W 0 (fun _ => true) true Tryz.f8.params.toList args.toList ds p := hA0
  rw [Tryz.params8] at hA hval hsz
  obtain ⟨v0, vs0, d0, ds0, p0, q0, hargs, rfl, rfl, h0, r0⟩ := trodAll_cons hA
  obtain ⟨v1, vs1, d1, ds1, p1, q1, rfl, rfl, rfl, h1, r1⟩ := trodAll_cons r0
  obtain ⟨v2, vs2, d2, ds2, p2, q2, rfl, rfl, rfl, h2, r2⟩ := trodAll_cons r1
  obtain ⟨v3, vs3, d3, ds3, p3, q3, rfl, rfl, rfl, h3, r3⟩ := trodAll_cons r2
  obtain ⟨rfl, rfl, rfl⟩ := trodAll_nil r3
  obtain rfl : args = #[v0, v1, v2, v3] := by cases args; simp_all
  obtain ⟨rfl, rfl⟩ := trodVars_none hV
  have k0 := h0
  have k1 := h1
  have k2 := h2
  have k3 := h3
  have lt0 : ∀ x ∈ p0, x.block < W.heap.size := by obtain ⟨m, hm⟩ := k0; exact DataW.trod_lt m _ _ _ hm
  have lt1 : ∀ x ∈ p1, x.block < W.heap.size := by obtain ⟨m, hm⟩ := k1; exact DataW.trod_lt m _ _ _ hm
  have lt2 : ∀ x ∈ p2, x.block < W.heap.size := by obtain ⟨m, hm⟩ := k2; exact DataW.trod_lt m _ _ _ hm
  have lt3 : ∀ x ∈ p3, x.block < W.heap.size := by obtain ⟨m, hm⟩ := k3; exact DataW.trod_lt m _ _ _ hm
  obtain ⟨x0, rfl, e0, e0', wf0⟩ := open_int Tryz.underlying3 (hval 0 _ v0 rfl rfl) h0
  obtain ⟨x1, y1⟩ := arg_prof (hval 1 _ v1 rfl rfl) h1 (weights_at hsz 1 rfl rfl)
  obtain ⟨x2, rfl, e2, e2', wf2⟩ := open_int Tryz.underlying3 (hval 2 _ v2 rfl rfl) h2
  obtain ⟨x3, y3⟩ := arg_ints (hval 3 _ v3 rfl rfl) h3 (weights_at hsz 3 rfl rfl)
  clear hA0 hval0
  refine (law_sties v1 v3 x0 x1 x2 x3 W wf0 y1 wf2 y3).mono fun e W' ⟨he, bel⟩ => ?_
  subst he
  exact ⟨_, rfl, _, _, _, [], _, [], hW', trodAll_mk1 (shut_bool Tryz.underlying4 _), (trodAll_cons_mk (Below.trod Tryz.laidOut (by kernel_rfl) (of_decide_eq_true (by kernel_rfl)) k0 bel lt0) (trodAll_cons_mk (Below.trod Tryz.laidOut (by kernel_rfl) (of_decide_eq_true (by kernel_rfl)) k1 bel lt1) (trodAll_cons_mk (Below.trod Tryz.laidOut (by kernel_rfl) (of_decide_eq_true (by kernel_rfl)) k2 bel lt2) (trodAll_cons_mk (Below.trod Tryz.laidOut (by kernel_rfl) (of_decide_eq_true (by kernel_rfl)) k3 bel lt3) trodAll_mk0)))), rfl, bel.frame _, fun h => by cases h⟩

theorem singleTies_named : Tryz.prog.funcNamed Rows.singleTiesRow.func = some 8 := by kernel_rfl
theorem singleTies_facts : joinedFacts Tryz.prog 8 Tryz.f8 Rows.singleTiesSpec Rows.singleTiesRow = true := by kernel_rfl
theorem singleTies_inst : Tryz.f8.isInstance Tryz.prog Rows.singleTiesRow.origin Rows.singleTiesRow.targs := of_decide_eq_true (by kernel_rfl)
theorem singleTies_wrap : Tryz.f8.isWrapper Tryz.prog Rows.singleTiesRow.wrapper Rows.singleTiesRow.mainSum := by
  unfold Func.isWrapper
  rw [if_neg (of_decide_eq_false (by kernel_rfl))]
  exact ⟨rfl, rfl⟩
theorem singleTies_holds : Rows.SingleTiesSaid :=
  OpenClaim.holds_of_wide 8 Tryz.f8 rfl rfl rfl rfl rfl rfl rfl ⟨rfl, rfl, rfl, rfl, rfl⟩ rfl rfl rfl rfl rfl singleTies_named Tryz.func8 singleTies_facts
    singleTies_inst singleTies_wrap
    (fun os started H enc _ => singleTies_lifted os started H enc)
#print axioms singleTies_holds
end Go.Proofs.YtogngcbflhdadaaGreat
