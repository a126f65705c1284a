/- The law SingleMore returns true whatever the input, and every argument reads behind the call as it read before. No condition. -/
import Derived.Test.YtogngcbflhdadaaGreatCGMore
import Derived.Test.YtogngcbflhdadaaGreatCGRul
import Derived.Test.YtogngcbflhdadaaGreatCGAdd
import Derived.Test.YtogngcbflhdadaaGreatRows
import Derived.Test.YtogngcbflhdadaaGreatCGSam
import Derived.WalkKit
import Derived.ProofKit
import Derived.OpenShut
import Derived.ShutString
import Derived.ChangeOld
import Derived.Below

/- A winner with more points still wins. No program. -/
namespace Go.Proofs.YtogngcbflhdadaaGreat

theorem firstL_le : ∀ {lot among : List Int} {m : Int}, m ∈ among → m ∈ lot → lot.idxOf (firstL lot among) ≤ lot.idxOf m
  | [], _, _, _, h => absurd h List.not_mem_nil
  | a :: l, among, m, hm, hl => by
    by_cases ha : a ∈ among
    · have e1 : firstL (a :: l) among = a := by simp [firstL, ha]
      rw [e1, List.idxOf_cons_self]
      omega
    · have e1 : firstL (a :: l) among = firstL l among := by simp [firstL, ha]
      have hne : m ≠ a := fun e => ha (e ▸ hm)
      have hl' : m ∈ l := by rcases List.mem_cons.1 hl with e | e; exact absurd e hne; exact e
      obtain ⟨f1, -⟩ := firstL_mem (lot := l) (among := among) ⟨m, hl', hm⟩
      have hne2 : firstL l among ≠ a := fun e => ha (e ▸ f1)
      have := firstL_le hm hl'
      rw [e1, List.idxOf_cons, List.idxOf_cons, show (a == m) = false by simpa using hne.symm, show (a == firstL l among) = false by simpa using hne2.symm]
      simpa using this
/-- One round: with more points for c, either c wins or nothing changes. -/
theorem round_more {had had2 lot left : List Int} {c : Int} (hl : ∀ x ∈ left, x ∈ lot) (hc : gI had c ≤ gI had2 c) (ho : ∀ y ∈ left, y ≠ c → gI had2 y = gI had y) (hcl : c ∈ left) :
    firstL lot (bestL (gI had2) left) = c ∨ (firstL lot (bestL (gI had2) left) = firstL lot (bestL (gI had) left) ∧ firstL lot (bestL (gI had) left) ≠ c) := by
  have hne : left ≠ [] := fun e => by rw [e] at hcl; cases hcl
  have hsub : ∀ f : Int → Int, ∃ x ∈ lot, x ∈ bestL f left := fun f => by
    obtain ⟨x, hx⟩ := List.exists_mem_of_ne_nil _ (bestL_ne (f := f) hne)
    exact ⟨x, hl x (bestL_mem.1 hx).1, hx⟩
  obtain ⟨a1, a2⟩ := firstL_mem (hsub (gI had))
  obtain ⟨b1, b2⟩ := firstL_mem (hsub (gI had2))
  obtain ⟨y, hy⟩ : ∃ y, firstL lot (bestL (gI had) left) = y := ⟨_, rfl⟩
  obtain ⟨z, hz⟩ : ∃ z, firstL lot (bestL (gI had2) left) = z := ⟨_, rfl⟩
  rw [hy] at a1 a2
  rw [hz] at b1 b2
  rw [hy, hz]
  by_cases hzc : z = c
  · exact .inl hzc
  · obtain ⟨y1, y2⟩ := bestL_mem.1 a1
    obtain ⟨z1, z2⟩ := bestL_mem.1 b1
    have ez := ho z z1 hzc
    have k1 := z2 c hcl
    have k2 := y2 z z1
    have k3 := z2 y y1
    have hyc : gI had y ≤ gI had2 y := by
      by_cases e : y = c
      · rw [e]; exact hc
      · rw [ho y y1 e]; exact Int.le_refl _
    have hzb : z ∈ bestL (gI had) left := bestL_mem.2 ⟨z1, fun t ht => by have := y2 t ht; omega⟩
    have hyb : y ∈ bestL (gI had2) left := bestL_mem.2 ⟨y1, fun t ht => by have := z2 t ht; omega⟩
    have i1 := firstL_le hzb b2
    have i2 := firstL_le hyb a2
    rw [hy] at i1
    rw [hz] at i2
    have e : y = z := idxOf_inj a2 (by omega)
    exact .inr ⟨e.symm, fun e2 => hzc (e ▸ e2)⟩
theorem seat_more {had had2 lot : List Int} {c : Int} (hl : LotOf lot had.length) (h2 : had2.length = had.length) (hc : gI had c ≤ gI had2 c) (ho : ∀ y : Int, 0 ≤ y → y < had.length → y ≠ c → gI had2 y = gI had y) (hcr : 0 ≤ c ∧ c < had.length) :
    ∀ i, c ∈ (seatSt had2 lot i).elected ∨ ((seatSt had2 lot i).elected = (seatSt had lot i).elected ∧ c ∉ (seatSt had lot i).elected)
  | 0 => .inr ⟨rfl, List.not_mem_nil⟩
  | i + 1 => by
    rcases seat_more hl h2 hc ho hcr i with h | ⟨h3, h4⟩
    · refine .inl ?_
      rw [seat_succ]; exact List.mem_append_left _ h
    · have e1 : (seatSt had2 lot i).left = (seatSt had lot i).left := by rw [seat_left, seat_left, h2, h3]
      have hcl : c ∈ (seatSt had lot i).left := by
        rw [seat_left, List.mem_filter]
        exact ⟨mem_rngI.2 hcr, by simpa using h4⟩
      have hs : ∀ x ∈ (seatSt had lot i).left, x ∈ lot := fun x hx => by
        rw [seat_left] at hx
        exact (hl.all x).2 (mem_rngI.1 (List.mem_filter.1 hx).1)
      rw [seat_succ, seat_succ, winL, winL, e1, h3]
      rcases round_more (had := had) (had2 := had2) (lot := lot) hs hc (fun y hy => by
        rw [seat_left] at hy
        have hr := mem_rngI.1 (List.mem_filter.1 hy).1
        exact ho y hr.1 hr.2) hcl with h | ⟨h5, h6⟩
      · exact .inl (by rw [h]; simp)
      · refine .inr ⟨by rw [h5], ?_⟩
        rw [List.mem_append, List.mem_singleton]
        rintro (h7 | h7)
        · exact h4 h7
        · exact h6 h7.symm
/-- A winner with more points still wins. -/
theorem still_wins {had had2 lot : List Int} {c : Int} {n : Nat} (hl : LotOf lot had.length) (h2 : had2.length = had.length) (hc : gI had c ≤ gI had2 c) (ho : ∀ y : Int, 0 ≤ y → y < had.length → y ≠ c → gI had2 y = gI had y) (hcr : 0 ≤ c ∧ c < had.length) (he : c ∈ (seatSt had lot n).elected) : c ∈ (seatSt had2 lot n).elected := by
  rcases seat_more hl h2 hc ho hcr n with h | ⟨-, h⟩
  · exact h
  · exact absurd he h
end Go.Proofs.YtogngcbflhdadaaGreat

/- One more ballot for a winner alone: the count is valid, and it still wins. No program. -/
namespace Go.Proofs.YtogngcbflhdadaaGreat

/-- The marks of a ballot for one candidate alone, by the rule. -/
def moreM (r C cn : Nat) : List Int := if r = 2 then (List.replicate C 0).set cn 1 else [(cn : Int)]
theorem more_lost {r C cn : Nat} : lostL r (moreM r C cn) = false := by
  unfold moreM
  by_cases h : r = 2
  · subst h; rfl
  · rw [if_neg h]; simp [lostL]
theorem more_give {r C cn x : Nat} (hr : r < 4) (hc : cn < C) (hx : x < C) : (x = cn → 0 ≤ giveL r (moreM r C cn) C x) ∧ (x ≠ cn → giveL r (moreM r C cn) C x = 0) := by
  have hcont : ∀ (A : Int), (if ([(cn : Int)] : List Int).contains (x : Int) then A else 0) = if x = cn then A else 0 := fun A => by
    by_cases h : x = cn
    · subst h; simp
    · rw [if_neg h, if_neg]
      simp only [List.contains_iff_mem, List.mem_singleton]
      omega
  obtain rfl | rfl | rfl | rfl : r = 0 ∨ r = 1 ∨ r = 2 ∨ r = 3 := by omega
  · have e : giveL 0 (moreM 0 C cn) C x = if x = cn then 1 else 0 := hcont 1
    rw [e]; constructor <;> intro h <;> simp [h]
  · have e : giveL 1 (moreM 1 C cn) C x = if x = cn then 1 else 0 := hcont 1
    rw [e]; constructor <;> intro h <;> simp [h]
  · have e : giveL 2 (moreM 2 C cn) C x = if cn = x then 1 else 0 := by
      show ((List.replicate C (0 : Int)).set cn 1).getD x 0 = _
      rw [List.getD_eq_getElem?_getD, List.getElem?_set]
      by_cases h : cn = x
      · rw [if_pos h, if_pos h, if_pos (by simpa using hc)]; rfl
      · rw [if_neg h, if_neg h, List.getElem?_replicate, if_pos hx]; rfl
    rw [e]
    constructor
    · rintro rfl; simp
    · intro h; rw [if_neg (Ne.symm h)]
  · have e : giveL 3 (moreM 3 C cn) C x = if x = cn then (C : Int) - 1 - (([(cn : Int)] : List Int).idxOf (x : Int) : Nat) else 0 := hcont _
    rw [e]
    constructor
    · rintro rfl; rw [if_pos rfl, List.idxOf_cons_self]; omega
    · intro h; rw [if_neg h]
theorem add_zero {p : Prof} {b : Blt} (ha : addI p b 1 = 0) : addV p b 1 = ⟨p.cands, p.kind, putR p.rows b.marks 1⟩ ∧ chkP ⟨p.cands, p.kind, putR p.rows b.marks 1⟩ = 0 := by
  have e1 : min (1 : Int) 1000001 = 1 := by decide
  constructor
  · rw [addV, if_pos ha, e1]; rfl
  · unfold addI at ha
    split at ha
    · contradiction
    · rw [e1] at ha; exact ha
theorem add_valid {r : Nat} {p : Prof} {b : Blt} {seats : Int} {lot : List Int} (h0 : singleI r p seats lot = 0) (ha : addI p b 1 = 0) : singleI r (addV p b 1) seats lot = 0 := by
  obtain ⟨e, hk⟩ := add_zero ha
  rw [e]
  unfold singleI countI at h0 ⊢
  simp only
  split at h0
  · omega
  · rename_i h1
    split at h0
    · omega
    · rename_i h2
      rw [if_neg, if_neg h2]
      rintro (h | h)
      · exact h hk
      · exact h1 (.inr h)
/-- The winner still wins. -/
theorem more_wins {r C cn sn : Nat} {p : Prof} {lot : List Int} (hr : r < 4) (hl : LotOf lot C) (hc : cn < C) (he : (cn : Int) ∈ (seatSt (hadL r p.rows C) lot sn).elected) : (cn : Int) ∈ (seatSt (hadL r (putR p.rows (moreM r C cn) 1) C) lot sn).elected := by
  have hg : ∀ (rows : List Row) (x : Nat), x < C → gI (hadL r rows C) (x : Int) = hadF r rows C x := fun rows x hx => by
    rw [gI_at (by rw [hadL_length]; exact hx)]
    simp only [hadL_fl]
    rw [fl_get]
  have hput : ∀ x, x < C → hadF r (putR p.rows (moreM r C cn) 1) C x = hadF r p.rows C x + giveL r (moreM r C cn) C x := fun x _ => by
    rw [hadF_put, more_lost]; simp
  refine still_wins (had := hadL r p.rows C) (by rw [hadL_length]; exact hl) (by rw [hadL_length, hadL_length]) ?_ ?_ (by rw [hadL_length]; omega) he
  · rw [hg _ _ hc, hg _ _ hc, hput _ hc]
    have := (more_give hr hc hc).1 rfl
    omega
  · intro y h1 h2 h3
    rw [hadL_length] at h2
    obtain ⟨z, rfl⟩ : ∃ z : Nat, y = (z : Int) := ⟨y.toNat, by omega⟩
    rw [hg _ _ (by omega), hg _ _ (by omega), hput _ (by omega), (more_give hr hc (by omega : z < C)).2 (by omega)]
    omega
/-- What the count with the ballot gives. -/
theorem more_out {r C cn sn : Nat} {p : Prof} {lot : List Int} (hr : r < 4) (hC : p.cands = (C : Int)) (hl : LotOf lot C) (h0 : singleI r p sn lot = 0) (hc : cn < C) (he : (cn : Int) ∈ (seatSt (hadL r p.rows C) lot sn).elected) (ha : addI p ⟨p.kind, moreM r C cn⟩ 1 = 0) :
    singleI r (addV p ⟨p.kind, moreM r C cn⟩ 1) sn lot = 0 ∧ (addV p ⟨p.kind, moreM r C cn⟩ 1).cands = C ∧ (addV p ⟨p.kind, moreM r C cn⟩ 1).kind = p.kind ∧ ∃ el x ts, singleV r (addV p ⟨p.kind, moreM r C cn⟩ 1) sn lot = ⟨el, [x], ts⟩ ∧ el.length = sn ∧ hasI el (cn : Int) = true := by
  have hv := add_valid h0 ha
  obtain ⟨e, -⟩ := add_zero ha
  refine ⟨hv, by rw [e]; exact hC, by rw [e], ?_⟩
  have h2 : (addV p ⟨p.kind, moreM r C cn⟩ 1).cands.toNat = C := by rw [e]; simp only [hC, Int.toNat_natCast]
  refine ⟨(seatSt (hadL r (putR p.rows (moreM r C cn) 1) C) lot sn).elected, ⟨(hadL r (putR p.rows (moreM r C cn) 1) C).map whole, whole (lostS r (putR p.rows (moreM r C cn) 1)), (seatSt (hadL r (putR p.rows (moreM r C cn) 1) C) lot sn).elected, []⟩, (seatSt (hadL r (putR p.rows (moreM r C cn) 1) C) lot sn).ties, ?_, seat_elected _ _ _, hasI_mem.2 (more_wins hr hl hc he)⟩
  rw [singleV, if_pos hv, h2, oneO, Int.toNat_natCast]
  simp only [e]
end Go.Proofs.YtogngcbflhdadaaGreat

/- The law SingleMore: its walk (printed by genmore.py). -/
namespace Go.Proofs.YtogngcbflhdadaaGreat
open Go Go.RowKit Go.Shelf

theorem ProfGives.opens {S : Nat → Prop} {I : Int} {V : Prof} {w : World} {e : Ending} {w' : World} (h : ProfGives S I V w e w') :
    ∃ a n c, e = .returned (.tuple #[.agg #[.int .i64 V.cands, .int .u8 V.kind, .slice a n c], .int .i64 I]) ∧ VProf Any w' (.agg #[.int .i64 V.cands, .int .u8 V.kind, .slice a n c]) V ∧ Below w.heap.size w w' := by
  obtain ⟨v, rfl, h1, h2⟩ := h
  have h3 := h1.mono (T := Any) fun _ _ => trivial
  obtain ⟨a, n, c, rfl⟩ := h1.open
  exact ⟨a, n, c, rfl, h3, h2⟩
theorem VBlt.mk {S : Nat → Prop} {w : World} {k : Int} {v : Value} {m : List Int} (h0 : 0 ≤ k ∧ k ≤ 255) (h : RInts S w v m) : VBlt S w (.agg #[.int .u8 k, v]) ⟨k, m⟩ := ⟨_, _, rfl, _, rfl, h0.1, h0.2, h⟩
set_option maxHeartbeats 16000000 in
set_option maxRecDepth 100000 in
theorem law_smore (u v : Value) (rule : Int) (p : Prof) (seats : Int) (lot : List Int) (w : World) (_ : (Lit.int .i64 rule).wf = true) (h : VProf Any w u p) (_ : (Lit.int .i64 seats).wf = true) (hv : RInts Any w v lot) :
    Calls Tryz.prog 5 #[.int .i64 rule, u, .int .i64 seats, v] w fun e w' => e = .returned (.bool true) ∧ Below w.heap.size w w' := by
  have h1 := h
  obtain ⟨a, m, c, rfl⟩ := h.open
  obtain ⟨a2, c2, rfl, -, -⟩ := RSl.shape hv
  obtain ⟨W0, hW0⟩ : ∃ W0, W0 = w.alloc (.cells #[.int .i64 p.cands, .int .u8 p.kind, .slice a m c] 24) := ⟨_, rfl⟩
  have hb0 : Below w.heap.size w W0 := by rw [hW0]; exact below_new w _
  have hg0 : W0.heap[w.heap.size]? = some (.cells #[.int .i64 p.cands, .int .u8 p.kind, .slice a m c] 24 (0, 0)) := by rw [hW0]; exact box_new w _
  have hP := h1.same (.of_below hb0)
  have hL := hv.same (.of_below hb0)
  have hMay := l11May Any Any rule _ _ p seats lot W0 hP hL
  by_cases hm : mayS rule p seats lot = true
  · obtain ⟨r, rfl, hr, h0⟩ := mayS_true hm
    rw [hm] at hMay
    obtain ⟨C, sn, hCn, rfl, hF⟩ := facts h0
    have hll : lot.length = C := hF.isLot.1
    have hlo : lot.length ≤ 1000000 := by have := hF.c10; omega
    obtain ⟨had, hhad⟩ : ∃ l, hadL r p.rows C = l := ⟨_, rfl⟩
    have hF0 := hF
    rw [hhad] at hF
    obtain ⟨el, hel⟩ : ∃ l, (seatSt had lot sn).elected = l := ⟨_, rfl⟩
    obtain ⟨ts, hts⟩ : ∃ l, (seatSt had lot sn).ties = l := ⟨_, rfl⟩
    obtain ⟨nt, hnt⟩ : ∃ n, ts.length = n := ⟨_, rfl⟩
    have hO := hF.out
    rw [hel, hts] at hO
    have hell : el.length = sn := by rw [← hel]; exact hF.el
    have hc10 := hF.c10
    have hs1 := hF.s
    have hsn10 : sn ≤ 10 := by omega
    have hC10 : C ≤ 10 := by omega
    have hnts : nt ≤ sn := by rw [← hnt, ← hts]; exact hF.ties
    have hCt := fun (W : World) (hW : Below W0.heap.size W0 W) => l11CountL r hr Any Any _ _ p sn lot W _ (hP.same (.of_below hW)) (hL.same (.of_below hW)) hlo h0 hO hell rfl hnt
    have hLo := fun (W : World) (hW : Below W0.heap.size W0 W) => hL.same (.of_below hW)
    have hK := (counted h0).kind
    have hpk : 0 ≤ p.kind ∧ p.kind ≤ 255 := by obtain ⟨_, _, _, k1, k2, _⟩ := h1; exact ⟨k1, k2⟩
    have hMo := fun (cn : Nat) (hc : cn < C) he (ha : addI p ⟨p.kind, moreM r C cn⟩ 1 = 0) => more_out hr hCn hF.isLot h0 hc he ha
    have hCt2 := fun (V : Prof) (W : World) (x : Value) (o : Outc) (n3 : Nat) (hW : Below W0.heap.size W0 W) (hx : VProf Any W x V) (g0 : singleI r V sn lot = 0) (gO : singleV r V sn lot = o) (g1 : o.elected.length = sn) (g2 : o.rounds.length = 1) (g3 : o.ties.length = n3) => l11CountL r hr Any Any x _ V sn lot W o hx (hL.same (.of_below hW)) hlo g0 gO g1 g2 g3
    have hPv := fun (W : World) (hW : Below W0.heap.size W0 W) => hP.same (.of_below hW)
    have hr2 : r = 2 ↔ p.kind = 3 := by
      rw [hK]
      obtain rfl | rfl | rfl | rfl : r = 0 ∨ r = 1 ∨ r = 2 ∨ r = 3 := by omega
      all_goals simp [kindL]
    have hrange : ∀ x ∈ el, 0 ≤ x ∧ x < C := by rw [← hel]; exact hF.range
    rw [hhad, hel] at hMo
    simp only [hCn] at hPv
    obtain ⟨kq, hkq⟩ : ∃ x, p.kind = x := ⟨_, rfl⟩
    simp only [hkq, hll] at hMo hCt2 hPv hr2 hpk
    rw [hkq] at hK
    have HMo := Lib.hid hMo; have HCt2 := Lib.hid hCt2; have HPv := Lib.hid hPv; have Hr2 := Lib.hid hr2; have Hpk := Lib.hid hpk; have Hrange := Lib.hid hrange; have Hkq := Lib.hid hkq
    clear hMo hCt2 hPv hr2 hpk hrange hK hkq
    have hkk := Hkq.out
    simp only [hCn, hkk, hll] at hMay hCt hLo hW0 hg0 ⊢
    rw [hW0] at hMay
    have HM := Lib.hid hMay; have HCt := Lib.hid hCt; have HLo := Lib.hid hLo; have HW0 := Lib.hid hW0; have G0 := Lib.hid hg0; have Hb0 := Lib.hid hb0; have HF := Lib.hid hF; have Hll := Lib.hid hll; have Hell := Lib.hid hell; have Hnt := Lib.hid hnt; have Hel := Lib.hid hel; have Hts := Lib.hid hts
    clear hMay hCt hLo hW0 hg0 hb0 hF hF0 hll hell hnt hel hts hP hL h h1 hv hm h0 hO hhad hkk hCn hlo hc10 hs1
    have st0 := Lib.hid True.intro
    have hneS : ((sn : Int) != (sn : Int)) = false := by simp
    go_enter Tryz.func5, Tryz.ntmps5
    go_wp2_with (first
      | (have := st1; go_at_call 30; clear st1; refine (HCt.out _ q0).mono ?_; rintro e w2 ⟨b21, c21, b22, c22, b23, c23, rfl, kv, hb⟩; have C2 := Lib.hid hb; replace q0 := bt q0 hb; obtain ⟨pa2, pb2, pc2, pl2⟩ := box3 G0.out q0; have HV2 := Lib.hid kv; clear kv hb pa1 pb1 pc1 pl1; have st2 := Lib.hid True.intro; clear this)
      | (have := st0; go_at_call 25; clear st0; refine HM.out.mono ?_; rintro e w1 ⟨rfl, hb⟩; rw [← HW0.out] at hb; have q0 := hb; obtain ⟨pa1, pb1, pc1, pl1⟩ := box3 G0.out q0; clear hb; have st1 := Lib.hid True.intro; clear this))
    obtain ⟨w3, hw3⟩ : ∃ q, q = w2.alloc (.cells #[.slice b21 sn c21, .slice b22 1 c22, .slice b23 nt c23] 32) := ⟨_, rfl⟩
    have hb3 : Below w2.heap.size w2 w3 := by rw [hw3]; exact below_new _ _
    have GO : Hid (w3.heap[w2.heap.size]? = some (.cells #[.slice b21 sn c21, .slice b22 1 c22, .slice b23 nt c23] 32 (0, 0))) := Lib.hid (by rw [hw3]; exact box_new _ _)
    have HQ := Lib.hid (bt q0 hb3)
    obtain ⟨q1, -, -⟩ := HV2.out.parts
    have HEl : Hid (RInts Any w3 (.slice b21 sn c21) el) := Lib.hid (q1.same (.of_below hb3))
    rw [← hw3]
    clear hw3 hb3 q1 q0 pa2 pb2 pc2 pl2 st2
    go_loopw [11, 12, 13, 14, 15, 16, 17] (fun i _ _ _ _ _ _ wr => ∃ iN : Nat, iN ≤ sn ∧ i = .int .i64 iN ∧ Hid (Below w3.heap.size w3 wr)) (fun i _ _ _ _ _ _ _ => sn - (intOf i).toNat)
    case atStart => exact ⟨0, Nat.zero_le _, rfl, Lib.hid (Below.refl _ _)⟩
    case round =>
      obtain ⟨iN, hiN, rfl, hbr⟩ := hrel
      obtain ⟨wo, hwo⟩ : ∃ q, q = wr := ⟨_, rfl⟩
      rw [← hwo] at hbr ⊢
      clear hwo
      by_cases hlti : iN < sn
      · have hltI : (iN : Int) < sn := by omega
        obtain ⟨o0, o1, o2, ol⟩ := box3 GO.out hbr.out
        have q0r := bt HQ.out hbr.out
        obtain ⟨pa, pb, pc, pl⟩ := box3 G0.out q0r
        have hil : iN < el.length := by rw [Hell.out]; exact hlti
        obtain ⟨ob, ooff, oc, rfl, -, obl, ocl, ohd⟩ := RSl.at1 (HEl.out.same (.of_below hbr.out)) iN hil
        obtain ⟨rfl, -⟩ := ohd.open
        have ra := Hrange.out _ (List.getElem_mem hil)
        have hmem := List.getElem_mem hil
        obtain ⟨an, han⟩ : ∃ n : Nat, el[iN] = (n : Int) := ⟨(el[iN]).toNat, by omega⟩
        rw [han] at ocl ra hmem
        have ran : (an : Int) < C := ra.2
        have hMo := HMo.out an (by omega) hmem
        have d0 : ¬ ((an : Int) < 0) := by omega
        have d1 : ¬ ((an : Int) ≥ C) := by omega
        have hwa : (Lit.int .i64 (an : Int)).wf = true := WalkArith.wf_i64 (by have := HF.out.c10; omega)
        have HMn := Lib.hid hMo
        have HQr := Lib.hid q0r
        clear hMo hmem han ohd q0r ra
        by_cases hk3 : kq = 3
        · subst hk3
          have hr2 : r = 2 := Hr2.out.2 rfl
          have hmM : moreM r C an = (List.replicate C 0).set an 1 := by rw [moreM, if_pos hr2]
          have hmk := run_make_row' (P := Tryz.prog) 25 3 (.int .i64 0) 8 Tryz.underlying25 Tryz.infoInt rfl .i64 .i64 C (by have := HF.out.c10; omega) (by have := HF.out.c10; omega)
          have hmc : (madeCells #[Value.int .i64 0] C)[an]? = some (Value.int .i64 0) := by rw [← Array.getElem?_toList, toList_madeCells_one, List.getElem?_replicate, if_pos (by omega)]
          obtain ⟨W7, hW7⟩ : ∃ q, q = ((wo.alloc (.cells #[.int .i64 (an : Int)] 3)).alloc (.cells #[.int .u8 3, .slice (some ⟨wo.heap.size + 1 + 1, 0, none⟩) C C] 58)).alloc (.cells ((madeCells #[Value.int .i64 0] C).setIfInBounds an (Value.int .i64 1)) 3) := ⟨_, rfl⟩
          have hb7 : Below wo.heap.size wo W7 := by rw [hW7]; exact ((Below.refl _ _).alloc (Nat.le_refl _) _).alloc (by simp) _ |>.alloc (by simp; omega) _
          have hB7 : RInts Any W7 (.slice (some ⟨wo.heap.size + 1 + 1, 0, none⟩) C C) (moreM r C an) := by
            rw [hW7]
            exact (by
            have hA0 : Arr .i64 (((wo.alloc (.cells #[.int .i64 (an : Int)] 3)).alloc (.cells #[.int .u8 3, .slice (some ⟨wo.heap.size + 1 + 1, 0, none⟩) C C] 58)).alloc (.cells ((madeCells #[Value.int .i64 0] C).setIfInBounds an (Value.int .i64 1)) 3)) ((wo.alloc (.cells #[.int .i64 (an : Int)] 3)).alloc (.cells #[.int .u8 3, .slice (some ⟨wo.heap.size + 1 + 1, 0, none⟩) C C] 58)).heap.size 3 ((List.replicate C 0).set an 1) := by
              unfold Arr
              rw [box_new]
              congr 2
              apply Array.ext'
              rw [Array.toList_setIfInBounds, toList_madeCells_one]
              simp
            rw [World.size_alloc, World.size_alloc] at hA0
            rw [hmM]
            exact Arr.all hA0 (S := Any) trivial (fun x hx => by rcases List.mem_or_eq_of_mem_set hx with h | rfl; rw [(List.mem_replicate.1 h).2]; rfl; rfl) (by simp; omega) (by simp) (Nat.le_refl _))
          have hq7 := bt HQr.out hb7
          have hAd := (profAdd Any Any (.agg #[.int .i64 C, .int .u8 3, .slice a m c]) (.agg #[.int .u8 3, .slice (some ⟨wo.heap.size + 1 + 1, 0, none⟩) C C]) p ⟨3, moreM r C an⟩ 1 W7 (HPv.out W7 hq7) (VBlt.mk Hpk.out hB7)).mono fun e w' hh => hh.opens
          obtain ⟨I, hI⟩ : ∃ I, addI p ⟨3, moreM r C an⟩ 1 = I := ⟨_, rfl⟩
          obtain ⟨V, hV⟩ : ∃ V, addV p ⟨3, moreM r C an⟩ 1 = V := ⟨_, rfl⟩
          have hMn := HMn.out
          simp only [hI, hV] at hAd hMn
          have pl1 : w.heap.size < wo.heap.size + 1 := by omega
          have pl2 : w.heap.size < wo.heap.size + 1 + 1 := by omega
          have pl3 : ¬ w.heap.size = wo.heap.size + 1 + 1 := by omega
          have pl4 : ¬ wo.heap.size + 1 + 1 = w.heap.size := by omega
          have HAd := Lib.hid hAd; have HW7 := Lib.hid hW7; have HB7 := Lib.hid hb7; have Hq7 := Lib.hid hq7; have HMn2 := Lib.hid hMn
          clear hAd hW7 hb7 hB7 hq7 hMn hI hV HMn hmM hr2
          by_cases hI0 : I = 0
          · subst hI0
            obtain ⟨v1, v2, v3, el2, x2, ts2, v4, v5, v6⟩ := HMn2.out rfl
            obtain ⟨n3, hn3⟩ : ∃ n, ts2.length = n := ⟨_, rfl⟩
            have hAd := HAd.out
            simp only [v2, v3] at hAd
            have HAd2 := Lib.hid hAd
            have hCt3 := fun W x hW hx => HCt2.out V W x _ n3 hW hx v1 v4 v5 rfl hn3
            have HCt3 := Lib.hid hCt3; have Hv6 := Lib.hid v6
            clear hAd v1 v2 v3 v4 v5 v6 hn3 hCt3
            have st5 := Lib.hid True.intro
            go_wp2_with (first
              | (have := st7; go_at_call 32; clear st7; obtain ⟨y1, -, -⟩ := HV9.out.parts; refine (in_b Any _ el2 (an : Int) _ (y1.same (.of_below (below_new _ _)))).mono ?_; rw [Hv6.out]; rintro e w10 ⟨rfl, hb⟩; have HB10 := Lib.hid (bt C8.out (bt C9.out (bt (below_new _ _) hb))); clear hb y1; have st8 := Lib.hid True.intro; clear this)
              | (have := st6; go_at_call 30; clear st6; refine (HCt3.out _ _ (bt Hq8.out (below_new _ _)) (HV8.out.same (.of_below (below_new _ _)))).mono ?_; rintro e w9 ⟨b91, c91, b92, c92, b93, c93, rfl, kv, hb⟩; have C9 := Lib.hid (bt (below_new _ _) hb); have HV9 := Lib.hid kv; clear kv hb; have st7 := Lib.hid True.intro; clear this)
              | (have := st5; go_at_call 31; clear st5; rw [← HW7.out]; refine HAd2.out.mono ?_; rintro e w8 ⟨a8, n8, c8, rfl, kv, hb⟩; have C8 := Lib.hid hb; have HV8 := Lib.hid kv; have Hq8 := Lib.hid (bt Hq7.out hb); obtain ⟨r1, r2, r3, r4⟩ := box3 G0.out Hq8.out; clear kv hb; have st6 := Lib.hid True.intro; clear this))
            exact ⟨⟨iN + 1, by omega, by go_num, Lib.hid (bt hbr.out (bt HB7.out HB10.out))⟩, by simp [intOf]; omega⟩
          · have hIb : (I != 0) = true := by simpa using hI0
            have st5 := Lib.hid True.intro
            go_wp2_with (have := st5; go_at_call 31; clear st5; rw [← HW7.out]; refine HAd.out.mono ?_; rintro e w8 ⟨a8, n8, c8, rfl, kv, hb⟩; have HB8 := Lib.hid (bt hbr.out (bt HB7.out hb)); clear kv hb; clear this)
            exact ⟨⟨iN + 1, by omega, by go_num, Lib.hid (bt HB8.out (below_new _ _))⟩, by simp [intOf]; omega⟩
        · skip
          have hr2 : r ≠ 2 := fun e => hk3 (Hr2.out.1 e)
          have hmM : moreM r C an = [(an : Int)] := by rw [moreM, if_neg hr2]
          have hk3b : (kq == 3) = false := by simpa using hk3
          obtain ⟨W7, hW7⟩ : ∃ q, q = (wo.alloc (.cells #[.int .i64 (an : Int)] 3)).alloc (.cells #[.int .u8 kq, .slice (some ⟨wo.heap.size, 0, none⟩) 1 1] 58) := ⟨_, rfl⟩
          have hb7 : Below wo.heap.size wo W7 := by rw [hW7]; exact ((Below.refl _ _).alloc (Nat.le_refl _) _).alloc (by simp) _
          have hB7 : RInts Any W7 (.slice (some ⟨wo.heap.size, 0, none⟩) 1 1) (moreM r C an) := by
            rw [hW7]
            exact (by
            rw [hmM]
            exact (litInts (xs := [(an : Int)]) (box_new wo (.cells #[.int .i64 (an : Int)] 3)) (by intro x hx; simp at hx; rw [hx]; exact hwa) (by simp)).same (.of_below (below_new _ _)))
          have hq7 := bt HQr.out hb7
          have hAd := (profAdd Any Any (.agg #[.int .i64 C, .int .u8 kq, .slice a m c]) (.agg #[.int .u8 kq, .slice (some ⟨wo.heap.size, 0, none⟩) 1 1]) p ⟨kq, moreM r C an⟩ 1 W7 (HPv.out W7 hq7) (VBlt.mk Hpk.out hB7)).mono fun e w' hh => hh.opens
          obtain ⟨I, hI⟩ : ∃ I, addI p ⟨kq, moreM r C an⟩ 1 = I := ⟨_, rfl⟩
          obtain ⟨V, hV⟩ : ∃ V, addV p ⟨kq, moreM r C an⟩ 1 = V := ⟨_, rfl⟩
          have hMn := HMn.out
          simp only [hI, hV] at hAd hMn
          have pl1 : w.heap.size < wo.heap.size + 1 := by omega
          have pl2 : w.heap.size < wo.heap.size + 1 + 1 := by omega
          have pl3 : ¬ w.heap.size = wo.heap.size + 1 + 1 := by omega
          have pl4 : ¬ wo.heap.size + 1 + 1 = w.heap.size := by omega
          have HAd := Lib.hid hAd; have HW7 := Lib.hid hW7; have HB7 := Lib.hid hb7; have Hq7 := Lib.hid hq7; have HMn2 := Lib.hid hMn
          clear hAd hW7 hb7 hB7 hq7 hMn hI hV HMn hmM hr2
          by_cases hI0 : I = 0
          · subst hI0
            obtain ⟨v1, v2, v3, el2, x2, ts2, v4, v5, v6⟩ := HMn2.out rfl
            obtain ⟨n3, hn3⟩ : ∃ n, ts2.length = n := ⟨_, rfl⟩
            have hAd := HAd.out
            simp only [v2, v3] at hAd
            have HAd2 := Lib.hid hAd
            have hCt3 := fun W x hW hx => HCt2.out V W x _ n3 hW hx v1 v4 v5 rfl hn3
            have HCt3 := Lib.hid hCt3; have Hv6 := Lib.hid v6
            clear hAd v1 v2 v3 v4 v5 v6 hn3 hCt3
            have st5 := Lib.hid True.intro
            go_wp2_with (first
              | (have := st7; go_at_call 32; clear st7; obtain ⟨y1, -, -⟩ := HV9.out.parts; refine (in_b Any _ el2 (an : Int) _ (y1.same (.of_below (below_new _ _)))).mono ?_; rw [Hv6.out]; rintro e w10 ⟨rfl, hb⟩; have HB10 := Lib.hid (bt C8.out (bt C9.out (bt (below_new _ _) hb))); clear hb y1; have st8 := Lib.hid True.intro; clear this)
              | (have := st6; go_at_call 30; clear st6; refine (HCt3.out _ _ (bt Hq8.out (below_new _ _)) (HV8.out.same (.of_below (below_new _ _)))).mono ?_; rintro e w9 ⟨b91, c91, b92, c92, b93, c93, rfl, kv, hb⟩; have C9 := Lib.hid (bt (below_new _ _) hb); have HV9 := Lib.hid kv; clear kv hb; have st7 := Lib.hid True.intro; clear this)
              | (have := st5; go_at_call 31; clear st5; rw [← HW7.out]; refine HAd2.out.mono ?_; rintro e w8 ⟨a8, n8, c8, rfl, kv, hb⟩; have C8 := Lib.hid hb; have HV8 := Lib.hid kv; have Hq8 := Lib.hid (bt Hq7.out hb); obtain ⟨r1, r2, r3, r4⟩ := box3 G0.out Hq8.out; clear kv hb; have st6 := Lib.hid True.intro; clear this))
            exact ⟨⟨iN + 1, by omega, by go_num, Lib.hid (bt hbr.out (bt HB7.out HB10.out))⟩, by simp [intOf]; omega⟩
          · have hIb : (I != 0) = true := by simpa using hI0
            have st5 := Lib.hid True.intro
            go_wp2_with (have := st5; go_at_call 31; clear st5; rw [← HW7.out]; refine HAd.out.mono ?_; rintro e w8 ⟨a8, n8, c8, rfl, kv, hb⟩; have HB8 := Lib.hid (bt hbr.out (bt HB7.out hb)); clear kv hb; clear this)
            exact ⟨⟨iN + 1, by omega, by go_num, Lib.hid (bt HB8.out (below_new _ _))⟩, by simp [intOf]; omega⟩
      · go_wp2_with (go_at_call 12; refine (wakes11 _).mono ?_; rintro e w7 ⟨rfl, hb⟩)
        go_ret
        exact ⟨rfl, bt Hb0.out (bt HQ.out (bt hbr.out hb))⟩
  · have hm' : mayS rule p seats lot = false := by simpa using hm
    rw [hm', hW0] at hMay
    obtain ⟨cc, hcc⟩ : ∃ x, p.cands = x := ⟨_, rfl⟩
    obtain ⟨kk, hkk⟩ : ∃ x, p.kind = x := ⟨_, rfl⟩
    obtain ⟨nl, hnl⟩ : ∃ x, lot.length = x := ⟨_, rfl⟩
    rw [hcc, hkk, hnl] at hMay
    rw [hcc, hkk] at hW0
    rw [hcc, hkk, hnl]
    have HM := Lib.hid hMay; have Hb0 := Lib.hid hb0; have HW0 := Lib.hid hW0
    clear hMay hb0 hW0 hP hL h h1 hv hm hm' hg0 hcc hkk hnl
    go_enter Tryz.func5, Tryz.ntmps5
    go_wp2_with (first
      | (go_at_call 25; refine HM.out.mono ?_; rintro e w1 ⟨rfl, hb⟩; rw [← HW0.out] at hb; have hq := bt Hb0.out hb; clear hb)
      | (go_at_call 12; refine (wakes11 _).mono ?_; rintro e w2 ⟨rfl, hb⟩))
    go_ret
    exact ⟨rfl, bt hq hb⟩
end Go.Proofs.YtogngcbflhdadaaGreat

namespace Go.Proofs.YtogngcbflhdadaaGreat
open Go Go.RowKit Go.ChangeShapes Go.WideShapes Go.ChangeAt

set_option maxRecDepth 100000 in
theorem singleMore_lifted (os : Os) (started : os.Started) (H : Type) (enc : TypeId × Value → H) :
    ReturnsInHanded {} Tryz.checked os 5 .any (Rows.singleMoreSpec.pre6 enc Tryz.prog Tryz.f5 Rows.singleMoreRow.domain false) (Rows.singleMoreSpec.post enc Tryz.prog Tryz.f5 false true false false) := by
  refine returnsInHanded_of_change_sized (C := Tryz.checked) Tryz.own started (by kernel_rfl) Tryz.func5
    (ChangeSpec.witness6 (enc := enc) (C := Tryz.checked) false ⟨#[], #[.int .i64 0, .agg #[.int .i64 0, .int .u8 0, .slice none 0 0], .int .i64 0, .slice none 0 0], []⟩ 8 (by kernel_rfl) (by kernel_rfl) (by kernel_rfl) (by kernel_rfl)) ?_
  intro W base args ds gs before hval0 hW hcnd hsz0 _
  have hval : ∀ (j : Nat) t v, Tryz.f5.params[j]? = some t → args[j]? = some v → Value.okWide Tryz.prog W .any base t v := hval0
  have hsz : (DataW.weightsEach Tryz.prog (Tryz.f5.params.toList ++ Rows.singleMoreSpec.plain.varTypes Tryz.prog) (ds ++ gs)).all (· ≤ reachBytes) = true := hsz0
  have hW' := hW
  obtain ⟨p, q, hA0, hV, rfl, hfz, hnd⟩ := hW
  have hA : DataW.TrodAll enc Tryz.prog W 0 (fun _ => true) true Tryz.f5.params.toList args.toList ds p := hA0
  rw [Tryz.params5] at hA hval hsz
  obtain ⟨v0, vs0, d0, ds0, p0, q0, hargs, rfl, rfl, h0, r0⟩ := trodAll_cons hA
  obtain ⟨v1, vs1, d1, ds1, p1, q1, rfl, rfl, rfl, h1, r1⟩ := trodAll_cons r0
  obtain ⟨v2, vs2, d2, ds2, p2, q2, rfl, rfl, rfl, h2, r2⟩ := trodAll_cons r1
  obtain ⟨v3, vs3, d3, ds3, p3, q3, rfl, rfl, rfl, h3, r3⟩ := trodAll_cons r2
  obtain ⟨rfl, rfl, rfl⟩ := trodAll_nil r3
  obtain rfl : args = #[v0, v1, v2, v3] := by cases args; simp_all
  obtain ⟨rfl, rfl⟩ := trodVars_none hV
  have k0 := h0
  have k1 := h1
  have k2 := h2
  have k3 := h3
  have lt0 : ∀ x ∈ p0, x.block < W.heap.size := by obtain ⟨m, hm⟩ := k0; exact DataW.trod_lt m _ _ _ hm
  have lt1 : ∀ x ∈ p1, x.block < W.heap.size := by obtain ⟨m, hm⟩ := k1; exact DataW.trod_lt m _ _ _ hm
  have lt2 : ∀ x ∈ p2, x.block < W.heap.size := by obtain ⟨m, hm⟩ := k2; exact DataW.trod_lt m _ _ _ hm
  have lt3 : ∀ x ∈ p3, x.block < W.heap.size := by obtain ⟨m, hm⟩ := k3; exact DataW.trod_lt m _ _ _ hm
  obtain ⟨x0, rfl, e0, e0', wf0⟩ := open_int Tryz.underlying3 (hval 0 _ v0 rfl rfl) h0
  obtain ⟨x1, y1⟩ := arg_prof (hval 1 _ v1 rfl rfl) h1 (weights_at hsz 1 rfl rfl)
  obtain ⟨x2, rfl, e2, e2', wf2⟩ := open_int Tryz.underlying3 (hval 2 _ v2 rfl rfl) h2
  obtain ⟨x3, y3⟩ := arg_ints (hval 3 _ v3 rfl rfl) h3 (weights_at hsz 3 rfl rfl)
  clear hA0 hval0
  refine (law_smore v1 v3 x0 x1 x2 x3 W wf0 y1 wf2 y3).mono fun e W' ⟨he, bel⟩ => ?_
  subst he
  exact ⟨_, rfl, _, _, _, [], _, [], hW', trodAll_mk1 (shut_bool Tryz.underlying4 _), (trodAll_cons_mk (Below.trod Tryz.laidOut (by kernel_rfl) (of_decide_eq_true (by kernel_rfl)) k0 bel lt0) (trodAll_cons_mk (Below.trod Tryz.laidOut (by kernel_rfl) (of_decide_eq_true (by kernel_rfl)) k1 bel lt1) (trodAll_cons_mk (Below.trod Tryz.laidOut (by kernel_rfl) (of_decide_eq_true (by kernel_rfl)) k2 bel lt2) (trodAll_cons_mk (Below.trod Tryz.laidOut (by kernel_rfl) (of_decide_eq_true (by kernel_rfl)) k3 bel lt3) trodAll_mk0)))), rfl, bel.frame _, fun h => by cases h⟩

theorem singleMore_named : Tryz.prog.funcNamed Rows.singleMoreRow.func = some 5 := by kernel_rfl
theorem singleMore_facts : joinedFacts Tryz.prog 5 Tryz.f5 Rows.singleMoreSpec Rows.singleMoreRow = true := by kernel_rfl
theorem singleMore_inst : Tryz.f5.isInstance Tryz.prog Rows.singleMoreRow.origin Rows.singleMoreRow.targs := of_decide_eq_true (by kernel_rfl)
theorem singleMore_wrap : Tryz.f5.isWrapper Tryz.prog Rows.singleMoreRow.wrapper Rows.singleMoreRow.mainSum := by
  unfold Func.isWrapper
  rw [if_neg (of_decide_eq_false (by kernel_rfl))]
  exact ⟨rfl, rfl⟩
theorem singleMore_holds : Rows.SingleMoreSaid :=
  OpenClaim.holds_of_wide 5 Tryz.f5 rfl rfl rfl rfl rfl rfl rfl ⟨rfl, rfl, rfl, rfl, rfl⟩ rfl rfl rfl rfl rfl singleMore_named Tryz.func5 singleMore_facts
    singleMore_inst singleMore_wrap
    (fun os started H enc _ => singleMore_lifted os started H enc)
#print axioms singleMore_holds
end Go.Proofs.YtogngcbflhdadaaGreat
