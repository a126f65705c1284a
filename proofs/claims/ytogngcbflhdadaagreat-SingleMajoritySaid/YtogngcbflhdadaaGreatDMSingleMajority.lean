/- The law SingleMajority returns true whatever the input, and every argument reads behind the call as it read before. No condition. -/
import Derived.Test.YtogngcbflhdadaaGreatDGSam
import Derived.Test.YtogngcbflhdadaaGreatDGRul
import Derived.Test.YtogngcbflhdadaaGreatDGOne
import Derived.Test.YtogngcbflhdadaaGreatDGRat
import Derived.Test.YtogngcbflhdadaaGreatDGNat
import Derived.Test.YtogngcbflhdadaaGreatDGSame
import Derived.Test.YtogngcbflhdadaaGreatDGAdd
import Derived.Test.YtogngcbflhdadaaGreatRows
import Derived.Deep.CutRange
import Derived.Deep.RegionHeld3
import Derived.WalkKit
import Derived.ProofKit
import Derived.OpenShut
import Derived.ShutString
import Derived.ChangeOld
import Derived.Below

/- The law SingleTells: its walk (printed by gentells11.py). -/
namespace Go.Proofs.YtogngcbflhdadaaGreat
open Go Go.RowKit Go.Shelf

theorem VProf.open {S : Nat → Prop} {w : World} {v : Value} {p : Prof} (h : VProf S w v p) : ∃ a m c, v = .agg #[.int .i64 p.cands, .int .u8 p.kind, .slice a m c] := by
  obtain ⟨a, c, rfl, -⟩ := h; exact ⟨a, _, c, rfl⟩
theorem GivesP.open {p : Prof} {w : World} {e : Ending} {w' : World} (h : GivesP p w e w') : ∃ a m c, e = .returned (.agg #[.int .i64 p.cands, .int .u8 p.kind, .slice a m c]) ∧ VProf Any w' (.agg #[.int .i64 p.cands, .int .u8 p.kind, .slice a m c]) p ∧ Below w.heap.size w w' := by
  obtain ⟨v, rfl, h1, h2⟩ := h
  obtain ⟨a, m, c, rfl⟩ := h1.open
  exact ⟨a, m, c, rfl, h1.mono fun _ _ => trivial, h2⟩
end Go.Proofs.YtogngcbflhdadaaGreat

/- The helpers of chapter 11's laws: kind, may, count, had. -/
namespace Go.Proofs.YtogngcbflhdadaaGreat
open Go Go.RowKit Go.Shelf

set_option maxHeartbeats 1000000 in
theorem l11Kind (rule : Nat) (hr : rule < 4) (w : World) : Calls Tryz.prog 56 #[.int .i64 rule] w fun e w' => e = .returned (.int .u8 (kindL rule)) ∧ Below w.heap.size w w' := by
  obtain rfl | rfl | rfl | rfl : rule = 0 ∨ rule = 1 ∨ rule = 2 ∨ rule = 3 := by omega
  · have i0 : ∀ w, (Instr.index 122 (.agg #[.int .u8 2, .int .u8 2, .int .u8 3, .int .u8 1]) (.int .i64 0)).run Tryz.prog w = .ok (.int .u8 2) w := fun _ => by kernel_rfl
    go_enter Tryz.func56, Tryz.ntmps56
    go_wp2
    go_ret
    exact ⟨rfl, Below.refl _ _⟩
  · have i0 : ∀ w, (Instr.index 122 (.agg #[.int .u8 2, .int .u8 2, .int .u8 3, .int .u8 1]) (.int .i64 1)).run Tryz.prog w = .ok (.int .u8 2) w := fun _ => by kernel_rfl
    go_enter Tryz.func56, Tryz.ntmps56
    go_wp2
    go_ret
    exact ⟨rfl, Below.refl _ _⟩
  · have i0 : ∀ w, (Instr.index 122 (.agg #[.int .u8 2, .int .u8 2, .int .u8 3, .int .u8 1]) (.int .i64 2)).run Tryz.prog w = .ok (.int .u8 3) w := fun _ => by kernel_rfl
    go_enter Tryz.func56, Tryz.ntmps56
    go_wp2
    go_ret
    exact ⟨rfl, Below.refl _ _⟩
  · have i0 : ∀ w, (Instr.index 122 (.agg #[.int .u8 2, .int .u8 2, .int .u8 3, .int .u8 1]) (.int .i64 3)).run Tryz.prog w = .ok (.int .u8 1) w := fun _ => by kernel_rfl
    go_enter Tryz.func56, Tryz.ntmps56
    go_wp2
    go_ret
    exact ⟨rfl, Below.refl _ _⟩
/-- Whether a law's count is valid. -/
def mayS (rule : Int) (p : Prof) (seats : Int) (lot : List Int) : Bool := decide (0 ≤ rule) && (decide (rule < 4) && decide (singleI rule.toNat p seats lot = 0))
theorem mayS_true {rule : Int} {p : Prof} {seats : Int} {lot : List Int} (h : mayS rule p seats lot = true) : ∃ r : Nat, rule = (r : Int) ∧ r < 4 ∧ singleI r p seats lot = 0 := by
  simp only [mayS, Bool.and_eq_true, decide_eq_true_eq] at h
  exact ⟨rule.toNat, by omega, by omega, h.2.2⟩
set_option maxHeartbeats 2000000 in
set_option maxRecDepth 100000 in
theorem l11May (S T : Nat → Prop) (rule : Int) (u v : Value) (p : Prof) (seats : Int) (lot : List Int) (w : World) (h : VProf S w u p) (hv : RInts T w v lot) :
    Calls Tryz.prog 25 #[.int .i64 rule, u, .int .i64 seats, v] w fun e w' => e = .returned (.bool (mayS rule p seats lot)) ∧ Below w.heap.size w w' := by
  have h1 := h
  obtain ⟨a, m, c, rfl⟩ := h.open
  obtain ⟨a2, m2, c2, rfl⟩ := RSl.slice hv
  obtain ⟨W0, hW0⟩ : ∃ W0, W0 = w.alloc (.cells #[.int .i64 p.cands, .int .u8 p.kind, .slice a m c] 24) := ⟨_, rfl⟩
  have hb0 : Below w.heap.size w W0 := by rw [hW0]; exact below_new w _
  have hg0 : W0.heap[w.heap.size]? = some (.cells #[.int .i64 p.cands, .int .u8 p.kind, .slice a m c] 24 (0, 0)) := by rw [hW0]; exact box_new w _
  obtain ⟨g0, g1, g2, -⟩ := box3 hg0 (Below.refl _ _)
  by_cases hr0 : 0 ≤ rule
  · by_cases hr4 : rule < 4
    · obtain ⟨r, rfl⟩ : ∃ r : Nat, rule = (r : Int) := ⟨rule.toNat, by omega⟩
      have hI : mayS (r : Int) p seats lot = ((singleI r p seats lot) == 0) := by
        rw [mayS, decide_eq_true hr0, decide_eq_true hr4, Bool.true_and, Bool.true_and, Int.toNat_natCast]
        rw [Bool.eq_iff_iff]; simp
      rw [hI]
      have hM := fun (q : Ex) => r11May S T _ _ p (kindL r) seats p.cands lot (ext W0 q) ((h1.same (.of_below hb0)).same (.of_below (below_ext W0 q))) ((hv.same (.of_below hb0)).same (.of_below (below_ext W0 q)))
      have hS : countI p (kindL r) seats p.cands lot = singleI r p seats lot := rfl
      simp only [hS] at hM
      have hK := fun (q : Ex) => l11Kind r (by omega) (ext W0 q)
      obtain ⟨cc, hcc⟩ : ∃ x, p.cands = x := ⟨_, rfl⟩
      obtain ⟨kk, hkk⟩ : ∃ x, p.kind = x := ⟨_, rfl⟩
      obtain ⟨I, hII⟩ : ∃ I, singleI r p seats lot = I := ⟨_, rfl⟩
      obtain ⟨K, hKK⟩ : ∃ I, kindL r = I := ⟨_, rfl⟩
      simp only [hcc, hkk, hII, hKK] at hW0 hM hK g0 g1 g2 ⊢
      have e0 := fun q => cell_ext (w := W0) g0 q
      have e1 := fun q => cell_ext (w := W0) g1 q
      have e2 := fun q => cell_ext (w := W0) g2 q
      have HM := Lib.hid hM; have HK := Lib.hid hK; have HW0 := Lib.hid hW0; have Hb0 := Lib.hid hb0
      have hge : (r : Int) ≥ 0 := by omega
      clear hM hK hW0 hb0 hg0 g0 g1 g2 h h1 hv hI hS hcc hkk hII hKK
      go_enter Tryz.func25, Tryz.ntmps25
      go_wp2
      rw [← HW0.out]
      clear HW0
      refine wp_region_ext (by kernel_rfl) (by kernel_rfl) ?_
      repeat (go_big_quiet_step ((first
        | (go_at_call 56; have hh := HK.out; exact calls_ext (v := .int .u8 K) (hh _))
        | (go_at_call 48; have hh := HM.out; exact calls_ext (v := .int .i64 I) (hh _)))))
      refine wpQuiet_nil ?_
      intro w2 hw'
      have hb12 : Below W0.heap.size W0 w2 := by obtain ⟨q, rfl⟩ := hw'; exact below_ext W0 q
      clear hw' e0 e1 e2 HM HK
      go_wp2
      go_ret
      exact ⟨rfl, bt Hb0.out hb12⟩
    · have hI : mayS rule p seats lot = false := by rw [mayS, decide_eq_false hr4, Bool.false_and, Bool.and_false]
      have d0 : decide (0 ≤ rule) = true := decide_eq_true hr0
      have d1 : decide (rule < 4) = false := decide_eq_false hr4
      rw [hI]
      have Hb0 := Lib.hid hb0; have HW0 := Lib.hid hW0
      clear hW0 hb0 hg0 g0 g1 g2 h h1 hv hI
      go_enter Tryz.func25, Tryz.ntmps25
      go_wp2
      rw [← HW0.out]
      clear HW0
      refine wp_region_ext (by kernel_rfl) (by kernel_rfl) ?_
      repeat (go_big_quiet_step (fail))
      refine wpQuiet_nil ?_
      intro w2 hw'
      have hb12 : Below W0.heap.size W0 w2 := by obtain ⟨q, rfl⟩ := hw'; exact below_ext W0 q
      clear hw'
      go_wp2
      go_ret
      exact ⟨rfl, bt Hb0.out hb12⟩
  · have hI : mayS rule p seats lot = false := by rw [mayS, decide_eq_false hr0, Bool.false_and]
    have d0 : decide (0 ≤ rule) = false := decide_eq_false hr0
    rw [hI]
    have Hb0 := Lib.hid hb0; have HW0 := Lib.hid hW0
    clear hW0 hb0 hg0 g0 g1 g2 h h1 hv hI
    go_enter Tryz.func25, Tryz.ntmps25
    go_wp2
    rw [← HW0.out]
    clear HW0
    refine wp_region_ext (by kernel_rfl) (by kernel_rfl) ?_
    repeat (go_big_quiet_step (fail))
    refine wpQuiet_nil ?_
    intro w2 hw'
    have hb12 : Below W0.heap.size W0 w2 := by obtain ⟨q, rfl⟩ := hw'; exact below_ext W0 q
    clear hw'
    go_wp2
    go_ret
    exact ⟨rfl, bt Hb0.out hb12⟩
end Go.Proofs.YtogngcbflhdadaaGreat

/- The helpers of chapter 11's laws: count and had (printed by genlsi.py). -/
namespace Go.Proofs.YtogngcbflhdadaaGreat
open Go Go.RowKit Go.Shelf

set_option maxHeartbeats 1000000 in
theorem l11Had (S : Nat → Prop) (u : Value) (o : Outc) (x : Rnd) (cands : Nat) (w : World) (h : VOutc S w u o) (ho : o.rounds = [x]) (hl : x.had.length = cands) :
    Calls Tryz.prog 27 #[u, .int .i64 cands] w fun e w' => ∃ a c, e = .returned (.tuple #[.slice a cands c, .bool true]) ∧ RRts S w' (.slice a cands c) x.had ∧ Below w.heap.size w w' := by
  obtain ⟨u1, u2, u3, rfl, h1, h2, h3⟩ := h
  obtain ⟨a1, m1, c1, rfl⟩ := RSl.slice h1
  obtain ⟨a2, c2, rfl, -, -⟩ := RSl.shape h2
  obtain ⟨a3, m3, c3, rfl⟩ := RSl.slice h3
  have hm2 : o.rounds.length = 1 := by rw [ho]; rfl
  rw [hm2] at h2 ⊢
  have hb0 := below_new w (.cells #[.slice a1 m1 c1, .slice a2 1 c2, .slice a3 m3 c3] 32)
  have hbx := box_new w (.cells #[.slice a1 m1 c1, .slice a2 1 c2, .slice a3 m3 c3] 32)
  obtain ⟨g0, g1, g2, gl⟩ := box3 hbx (Below.refl _ _)
  have h20 := h2.same (.of_below hb0)
  obtain ⟨W0, hW0⟩ : ∃ W0, W0 = w.alloc (.cells #[.slice a1 m1 c1, .slice a2 1 c2, .slice a3 m3 c3] 32) := ⟨_, rfl⟩
  rw [← hW0] at h20 hb0 g0 g1 g2
  obtain ⟨b, off, d0, d1, d2, d3, d4, d5, rfl, -, -, y0, y1, y2, y3, y4, y5, hy⟩ := RSl.at6 h20 0 (by rw [hm2]; omega)
  obtain ⟨s0, n0, t0, s2, n2, t2, s3, n3, t3, s4, n4, t4, s5, n5, t5, rfl, rfl, rfl, rfl, rfl, rfl, hy0, -, -, -⟩ := hy.open
  have hx : o.rounds[0]'(by rw [hm2]; omega) = x := by simp [ho]
  rw [hx] at hy0
  obtain rfl : n0 = cands := (RSl.len hy0).trans hl
  simp only [Nat.zero_mul, Nat.add_zero] at y0
  have hne : ((n0 : Int) != (n0 : Int)) = false := by simp
  have HW0 := Lib.hid hW0; have Hy0 := Lib.hid hy0; have Hb0 := Lib.hid hb0
  rw [hW0] at y0
  clear hW0 hy0 hb0 h1 h2 h3 h20 hy y1 y2 y3 y4 y5 hbx gl g0 g1 g2 hx hm2 ho
  go_enter Tryz.func27, Tryz.ntmps27
  go_wp2
  go_ret2
  exact ⟨_, _, rfl, by rw [← HW0.out]; exact Hy0.out, by rw [← HW0.out]; exact Hb0.out⟩
end Go.Proofs.YtogngcbflhdadaaGreat

/- Laws of the winners: their order, and one seat more. No program. -/
namespace Go.Proofs.YtogngcbflhdadaaGreat

/-- The seat that is given behind i others. -/
def winL (had lot : List Int) (i : Nat) : Int := firstL lot (bestL (gI had) (seatSt had lot i).left)
theorem seat_succ (had lot : List Int) (i : Nat) : (seatSt had lot (i + 1)).elected = (seatSt had lot i).elected ++ [winL had lot i] := rfl
theorem seat_take (had lot : List Int) {i : Nat} : ∀ n, i ≤ n → (seatSt had lot n).elected.take i = (seatSt had lot i).elected
  | 0, h => by
    obtain rfl : i = 0 := by omega
    rfl
  | n + 1, h => by
    by_cases e : i = n + 1
    · subst e
      exact List.take_of_length_le (by rw [seat_elected]; omega)
    · rw [seat_succ, List.take_append_of_le_length (by rw [seat_elected]; omega)]
      exact seat_take had lot n (by omega)
theorem seat_get (had lot : List Int) {i n : Nat} (h : i < n) (hi : i < (seatSt had lot n).elected.length) : (seatSt had lot n).elected[i] = winL had lot i := by
  have h1 := seat_take had lot (i := i + 1) n (by omega)
  have h2 : ((seatSt had lot n).elected.take (i + 1))[i]? = some (seatSt had lot n).elected[i] := by rw [List.getElem?_take_of_lt (by omega), List.getElem?_eq_getElem hi]
  rw [h1, seat_succ, List.getElem?_append_right (by rw [seat_elected]; omega), seat_elected, Nat.sub_self] at h2
  simpa using h2.symm
section
variable {had lot : List Int} {n : Nat}
end
end Go.Proofs.YtogngcbflhdadaaGreat

/- Comparing whole numbers as ratios. -/
namespace Go.Proofs.YtogngcbflhdadaaGreat
open Go Go.RowKit Go.Shelf Limb

theorem lim_small_len {n : Nat} (h : n < 9223372036854775808) : (lim n).length ≤ 2 := lim_length_le (k := 2) (by simp only [pw]; omega)
theorem chk_whole {n : Nat} (h : n < 9223372036854775808) : ratChk false (lim n) [1] = 0 := by
  have := lim_small_len h
  rw [← lim1, ratChk_ok (m := n) (n := 1) (g := 1) (by omega) (by rw [lim1]; decide) (by omega) (Nat.gcd_one_right n) (by simp), if_pos rfl]
end Go.Proofs.YtogngcbflhdadaaGreat

/- A valid count of chapter 11: what the law's count gives, in one contract; what is known of it. -/
namespace Go.Proofs.YtogngcbflhdadaaGreat
open Go Go.RowKit Go.Shelf

theorem whole_at {had : List Int} {an : Nat} (h : an < (had.map whole).length) : (had.map whole)[an] = whole (had.getD an 0) := by
  rw [List.getElem_map, List.getD_eq_getElem?_getD, List.getElem?_eq_getElem (by simpa using h)]; rfl
theorem VRt.of {S : Nat → Prop} {w : World} {c d e : Value} {x : Rt} (h : dRt S w [c, d, e] x) : VRt S w (.agg #[c, d, e]) x := by
  obtain ⟨vn, vd, h1, h2, h3⟩ := h
  simp only [List.cons.injEq, and_true] at h1
  obtain ⟨rfl, rfl, rfl⟩ := h1
  exact ⟨_, _, rfl, h2, h3⟩
theorem VOutc.parts {S : Nat → Prop} {w : World} {x1 x2 x3 : Value} {o : Outc} (h : VOutc S w (.agg #[x1, x2, x3]) o) : RInts S w x1 o.elected ∧ RRnds S w x2 o.rounds ∧ RTies S w x3 o.ties := by
  obtain ⟨y1, y2, y3, ye, q1, q2, q3⟩ := h
  simp only [Value.agg.injEq, Array.mk.injEq, List.cons.injEq, and_true] at ye
  obtain ⟨rfl, rfl, rfl⟩ := ye
  exact ⟨q1, q2, q3⟩
/-- What is known of a valid count. -/
structure Facts (r : Nat) (p : Prof) (sn : Nat) (lot : List Int) (C : Nat) (had : List Int) : Prop where
  hlen : had.length = C
  c10 : 1 ≤ C ∧ C ≤ 10
  s : 1 ≤ sn ∧ sn ≤ C
  isLot : LotOf lot C
  pts : ∀ x : Nat, 0 ≤ had.getD x 0 ∧ had.getD x 0 ≤ 10000000
  blost : 0 ≤ lostS r p.rows ∧ lostS r p.rows ≤ 1000000
  out : singleV r p sn lot = ⟨(seatSt had lot sn).elected, [⟨had.map whole, whole (lostS r p.rows), (seatSt had lot sn).elected, []⟩], (seatSt had lot sn).ties⟩
  el : (seatSt had lot sn).elected.length = sn
  nodup : (seatSt had lot sn).elected.Nodup
  range : ∀ x ∈ (seatSt had lot sn).elected, 0 ≤ x ∧ x < C
  ties : (seatSt had lot sn).ties.length ≤ sn
theorem facts {r : Nat} {p : Prof} {seats : Int} {lot : List Int} (h0 : singleI r p seats lot = 0) : ∃ C sn : Nat, p.cands = (C : Int) ∧ seats = (sn : Int) ∧ Facts r p sn lot C (hadL r p.rows C) := by
  obtain ⟨ck, ⟨cc1, cc2⟩, ⟨cs1, cs2⟩, cl, cm, cf, cr, csum⟩ := counted h0
  obtain ⟨C, hCn⟩ : ∃ C : Nat, p.cands = (C : Int) := ⟨p.cands.toNat, by omega⟩
  obtain ⟨sn, hsn⟩ : ∃ s : Nat, seats = (s : Int) := ⟨seats.toNat, by omega⟩
  subst hsn
  rw [hCn, Int.toNat_natCast] at cl
  have hl : (hadL r p.rows C).length = C := by rw [hadL_fl, fl_length]
  have hcl : LotOf lot (hadL r p.rows C).length := by rw [hl]; exact cl
  obtain ⟨f1, f2, -⟩ := seat_facts hcl sn (by rw [hl]; omega)
  rw [hl] at f2
  refine ⟨C, sn, hCn, rfl, hl, by omega, by omega, cl, fun x => ?_, ?_, ?_, seat_elected _ _ _, f1, f2, seat_ties _ _ _⟩
  · by_cases hx : x < (hadL r p.rows C).length
    · have h3 := hadF_bound (rule := r) (rows := p.rows) (c := C) (x := x) (m := 10) (by omega) fun rr hr => by
        have h1 := cm rr hr
        have h2 := give_bound (x := x) ck (by have := cf rr hr; rw [hCn] at this; exact this) (by omega)
        exact ⟨by omega, h2.1, h2.2⟩
      have e : (hadL r p.rows C).getD x 0 = hadF r p.rows C x := by
        rw [List.getD_eq_getElem?_getD, List.getElem?_eq_getElem hx]
        simp only [hadL_fl, Option.getD_some]
        rw [fl_get]
      rw [e]; omega
    · rw [List.getD_eq_getElem?_getD, List.getElem?_eq_none (by omega)]; simp
  · have := lostS_bound (rule := r) (rows := p.rows) fun rr hr => by have := cm rr hr; omega
    omega
  · rw [singleV, h0, if_pos rfl, hCn]; simp only [Int.toNat_natCast, oneO]
end Go.Proofs.YtogngcbflhdadaaGreat

/- Points and lost ballots of a profile with more ballots, and of a sum of two profiles. No program. -/
namespace Go.Proofs.YtogngcbflhdadaaGreat

theorem hadF_cons (rule : Nat) (r : Row) (rs : List Row) (c x : Nat) : hadF rule (r :: rs) c x = (if lostL rule r.marks then 0 else giveL rule r.marks c x * r.many) + hadF rule rs c x := by
  rw [hadF, List.filter_cons]
  cases h : lostL rule r.marks <;> simp [hadF]
theorem lostS_cons (rule : Nat) (r : Row) (rs : List Row) : lostS rule (r :: rs) = (if lostL rule r.marks then r.many else 0) + lostS rule rs := by
  rw [lostS, List.filter_cons]
  cases h : lostL rule r.marks <;> simp [lostS]
theorem chk_of_single {r : Nat} {p : Prof} {seats : Int} {lot : List Int} (h : singleI r p seats lot = 0) : chkP p = 0 := by
  unfold singleI countI at h
  split at h
  · omega
  · rename_i h1
    simp only [not_or, Decidable.not_not] at h1
    exact h1.1
end Go.Proofs.YtogngcbflhdadaaGreat

/- Laws of the recorded ties. No program. -/
namespace Go.Proofs.YtogngcbflhdadaaGreat

/-- Those who share the seat that is given behind j others. -/
def amL (had lot : List Int) (j : Nat) : List Int := bestL (gI had) (seatSt had lot j).left
theorem am_mem {had lot : List Int} {j : Nat} {x : Int} (h : x ∈ amL had lot j) : x ∈ (seatSt had lot j).left ∧ 0 ≤ x ∧ x < had.length ∧ ∀ y ∈ (seatSt had lot j).left, gI had y ≤ gI had x := by
  obtain ⟨h1, h2⟩ := bestL_mem.1 h
  have h3 := h1
  rw [seat_left] at h3
  have h4 := mem_rngI.1 (List.mem_filter.1 h3).1
  exact ⟨h1, h4.1, h4.2, h2⟩
/-- What a recorded tie is. -/
structure TieAt (had lot : List Int) (n : Nat) (t : Tie) (j : Nat) : Prop where
  lt : j < n
  two : 2 ≤ t.among.length
  first : firstL lot t.among = t.chosen
  win : t.chosen = winL had lot j
  cand : 0 ≤ t.chosen ∧ t.chosen < had.length
  range : ∀ k (h : k < t.among.length), 0 ≤ t.among[k] ∧ t.among[k] < had.length
  asc : ∀ k (h : k < t.among.length), 0 < k → t.among[k - 1] < t.among[k]
  pts : ∀ k (h : k < t.among.length), gI had t.among[k] = gI had t.chosen
end Go.Proofs.YtogngcbflhdadaaGreat

/- Plurality: points and lost ballots are all ballots; more than half wins. No program. -/
namespace Go.Proofs.YtogngcbflhdadaaGreat

theorem sum_map_add (f g : Nat → Int) : ∀ l : List Nat, (l.map fun x => f x + g x).sum = (l.map f).sum + (l.map g).sum
  | [] => rfl
  | a :: l => by
    simp only [List.map_cons, List.sum_cons, sum_map_add f g l]
    omega
theorem sum_range_succ (f : Nat → Int) (k : Nat) : ((List.range (k + 1)).map f).sum = ((List.range k).map f).sum + f k := by
  rw [List.range_succ, List.map_append, List.sum_append]
  simp
theorem sum_point (c : Nat) (n : Int) : ∀ k, ((List.range k).map fun x => if x = c then n else 0).sum = if c < k then n else 0
  | 0 => by simp
  | k + 1 => by
    rw [sum_range_succ, sum_point c n k]
    show (if c < k then n else 0) + (if k = c then n else 0) = if c < k + 1 then n else 0
    split <;> split <;> split <;> omega
theorem sum_nn {f : Nat → Int} (hf : ∀ x, 0 ≤ f x) : ∀ k, 0 ≤ ((List.range k).map f).sum
  | 0 => by simp
  | k + 1 => by rw [sum_range_succ]; have := sum_nn hf k; have := hf k; omega
theorem one_le {f : Nat → Int} (hf : ∀ x, 0 ≤ f x) : ∀ k a, a < k → f a ≤ ((List.range k).map f).sum
  | 0, _, h => absurd h (by omega)
  | k + 1, a, h => by
    rw [sum_range_succ]
    by_cases e : a = k
    · subst e; have := sum_nn hf a; omega
    · have := one_le hf k a (by omega); have := hf k; omega
theorem two_le {f : Nat → Int} (hf : ∀ x, 0 ≤ f x) : ∀ k a b, a < k → b < k → a ≠ b → f a + f b ≤ ((List.range k).map f).sum
  | 0, _, _, h, _, _ => absurd h (by omega)
  | k + 1, a, b, ha, hb, hne => by
    rw [sum_range_succ]
    by_cases e : a = k
    · subst e; have := one_le hf a b (by omega); omega
    · by_cases e2 : b = k
      · subst e2; have := one_le hf b a (by omega); omega
      · have := two_le hf k a b (by omega) (by omega) hne; have := hf k; omega
/-- A candidate's plurality points: the ballots that mark it alone. -/
theorem plur_cnt {C x : Nat} : ∀ {rows : List Row}, Asc rows → hadF 0 rows C x = cnt rows [(x : Int)]
  | [], _ => rfl
  | r :: rs, h => by
    rw [hadF_cons, cnt]
    by_cases e : r.marks = [(x : Int)]
    · have h1 : hadF 0 rs C x = 0 := by rw [plur_cnt h.2.2, cnt_ahead h.2.1 (by rw [e, cmpL_self]; omega)]
      have hl : lostL 0 r.marks = false := by rw [e]; rfl
      rw [h1, if_pos e, hl, e, give0, if_pos rfl]
      simp
    · rw [if_neg e, ← plur_cnt h.2.2 (C := C)]
      cases hl : lostL 0 r.marks with
      | true => simp
      | false =>
        have h1 : r.marks.length = 1 := by simpa [lostL] using hl
        obtain ⟨c0, hc0⟩ := List.length_eq_one_iff.1 h1
        rw [if_neg (by simp), hc0, give0, if_neg (fun e2 => e (by rw [hc0, e2]))]
        simp
/-- The lost ballots and the points of the first k candidates. -/
def sumTo (rows : List Row) (C k : Nat) : Int := lostS 0 rows + ((List.range k).map (hadF 0 rows C)).sum
theorem sumTo_zero (rows : List Row) (C : Nat) : sumTo rows C 0 = lostS 0 rows := by simp [sumTo]
theorem sumTo_succ (rows : List Row) (C k : Nat) : sumTo rows C (k + 1) = sumTo rows C k + hadF 0 rows C k := by
  rw [sumTo, sum_range_succ, sumTo]; omega
theorem sumTo_all {C : Nat} : ∀ {rows : List Row}, (∀ r ∈ rows, ∀ x ∈ r.marks, 0 ≤ x ∧ x < C) → sumTo rows C C = sumR rows
  | [], _ => by
    have h0 : ((List.range C).map (hadF 0 [] C)).sum = 0 := by
      have : hadF 0 [] C = fun _ => (0 : Int) := funext fun x => hadF_nil 0 C x
      rw [this]
      generalize List.range C = l
      induction l with
      | nil => rfl
      | cons a l ih => simpa using ih
    rw [sumTo, h0]; rfl
  | r :: rs, h => by
    have ih := sumTo_all (rows := rs) fun s hs => h s (List.mem_cons_of_mem _ hs)
    have e : hadF 0 (r :: rs) C = fun x => (if lostL 0 r.marks then 0 else giveL 0 r.marks C x * r.many) + hadF 0 rs C x := funext fun x => hadF_cons 0 r rs C x
    rw [sumTo, e, sum_map_add, lostS_cons]
    rw [sumTo] at ih
    have e2 : sumR (r :: rs) = r.many + sumR rs := by simp [sumR]
    rw [e2, ← ih]
    cases hl : lostL 0 r.marks with
    | true =>
      have : ((List.range C).map fun x => (if true = true then (0 : Int) else giveL 0 r.marks C x * r.many)).sum = 0 := by
        generalize List.range C = l
        induction l with
        | nil => rfl
        | cons a l ih => simpa using ih
      rw [this, if_pos rfl]; omega
    | false =>
      have h1 : r.marks.length = 1 := by simpa [lostL] using hl
      obtain ⟨c0, hc0⟩ := List.length_eq_one_iff.1 h1
      obtain ⟨g1, g2⟩ := h r (by simp) c0 (by rw [hc0]; simp)
      have : (fun x : Nat => (if false = true then (0 : Int) else giveL 0 r.marks C x * r.many)) = fun x => if x = c0.toNat then r.many else 0 := funext fun x => by
        rw [if_neg (by simp), hc0, give0]
        by_cases e3 : x = c0.toNat
        · have h5 : (x : Int) = c0 := by omega
          rw [if_pos h5, if_pos e3]; omega
        · have h5 : ¬ (x : Int) = c0 := by omega
          rw [if_neg h5, if_neg e3]; omega
      have h6 : c0.toNat < C := by omega
      rw [this, sum_point, if_pos h6, if_neg (by simp)]; omega
/-- Whoever is marked alone by more than half of all ballots is elected first. -/
theorem half_wins {C : Nat} {rows : List Row} {lot : List Int} {n : Nat} (hl : LotOf lot C) (hm : ∀ r ∈ rows, ∀ x ∈ r.marks, 0 ≤ x ∧ x < C) (hr : ∀ r ∈ rows, 0 ≤ r.many) {c : Nat} (hc : c < C) (h2 : sumR rows < 2 * hadF 0 rows C c) (hn : 0 < n) (h0 : 0 < (seatSt (hadL 0 rows C) lot n).elected.length) :
    (seatSt (hadL 0 rows C) lot n).elected[0] = (c : Int) := by
  rw [seat_get _ _ hn h0]
  have hlen : (hadL 0 rows C).length = C := hadL_length 0 rows C
  have hnn : ∀ x, 0 ≤ hadF 0 rows C x := fun x => (hadF_bound (rule := 0) (rows := rows) (c := C) (x := x) (m := 1) (by omega) fun r hr' => ⟨hr r hr', (give_bound01 (marks := r.marks) (c := C) (x := x)).1, (give_bound01 (marks := r.marks) (c := C) (x := x)).2.1⟩).1
  have hg : ∀ x : Nat, x < C → gI (hadL 0 rows C) (x : Int) = hadF 0 rows C x := fun x hx => by
    rw [gI_at (by rw [hlen]; exact hx)]
    simp only [hadL_fl]
    rw [fl_get]
  have hl' : LotOf lot (hadL 0 rows C).length := by rw [hlen]; exact hl
  have hcl : (c : Int) ∈ (seatSt (hadL 0 rows C) lot 0).left := mem_rngI.2 (by rw [hlen]; omega)
  have hne : (seatSt (hadL 0 rows C) lot 0).left ≠ [] := fun e => by rw [e] at hcl; cases hcl
  obtain ⟨w1, w2⟩ := seat_win hl' hne
  have w3 : winL (hadL 0 rows C) lot 0 ∈ amL (hadL 0 rows C) lot 0 := w1
  obtain ⟨-, r1, r2, r3⟩ := am_mem w3
  have h3 := r3 _ hcl
  rw [hlen] at r2
  obtain ⟨y, hy⟩ : ∃ y : Nat, winL (hadL 0 rows C) lot 0 = (y : Int) := ⟨(winL (hadL 0 rows C) lot 0).toNat, by omega⟩
  rw [hy] at r2 h3 ⊢
  rw [hg c hc, hg y (by omega)] at h3
  by_cases e : y = c
  · rw [e]
  · have h4 := two_le hnn C c y hc (by omega) (Ne.symm e)
    have h5 := sumTo_all hm
    rw [sumTo] at h5
    have h6 := (lostS_bound (rule := 0) hr).1
    omega
end Go.Proofs.YtogngcbflhdadaaGreat

/- Natural numbers: the contracts of nat.limb and nat.Add. -/
namespace Go.Proofs.YtogngcbflhdadaaGreat
open Go Go.RowKit Go.Shelf Limb

set_option maxHeartbeats 1000000 in
theorem natLimb (S : Nat → Prop) (a : Option Addr) (L c : Nat) (xs : List Int) (i : Nat) (w : World) (h : RU S w (.slice a L c) xs) :
    Calls Tryz.prog 144 #[.slice a L c, .int .i64 i] w fun e w' => e = .returned (.int .u32 (xs.getD i 0)) ∧ w = w' := by
  have hL : L = xs.length := RSl.len h
  by_cases hlt : i < L
  · obtain ⟨b, off, rfl, -, -, hc, -, -⟩ := RU.at h (by omega : i < xs.length)
    have hg : xs.getD i 0 = xs[i]'(by omega) := by rw [List.getD_eq_getElem?_getD, List.getElem?_eq_getElem (by omega)]; rfl
    rw [hg]
    obtain ⟨x, hx⟩ : ∃ x, xs[i]'(by omega) = x := ⟨_, rfl⟩
    rw [hx] at hc ⊢
    have hI : (i : Int) < L := by omega
    clear h hL hg hx
    go_enter Tryz.func144, Tryz.ntmps144
    go_wp2
    go_ret
    exact ⟨rfl, rfl⟩
  · have hg : xs.getD i 0 = 0 := by rw [List.getD_eq_getElem?_getD, List.getElem?_eq_none (by omega)]; rfl
    rw [hg]
    have hI : (i : Int) ≥ L := by omega
    clear h hL hg
    go_enter Tryz.func144, Tryz.ntmps144
    go_wp2
    go_ret
    exact ⟨rfl, rfl⟩
theorem set_zeros {ds : List Int} {i M : Nat} (hd : ds.length = i) (hi : i < M) (x : Int) : (ds ++ List.replicate (M - i) 0).set i x = (ds ++ [x]) ++ List.replicate (M - (i + 1)) 0 := by
  rw [List.set_append_right _ _ (by omega), hd, Nat.sub_self, show M - i = M - (i + 1) + 1 by omega, List.replicate_succ, List.set_cons_zero, List.append_assoc]
  rfl
set_option maxHeartbeats 2000000 in
set_option maxRecDepth 100000 in
theorem natAdd (va vb : Value) (m n : Nat) (w : World) (ha : NumAt w va m) (hb : NumAt w vb n) (hla : (lim m).length ≤ 96) (hlb : (lim n).length ≤ 96) :
    Calls Tryz.prog 110 #[va, vb] w (FitGives (m + n) w) := by
  have hB := natBoth Any Any va vb _ _ w ha.ru hb.ru
  rw [chkNN, chk_of_lim hla, chk_of_lim hlb] at hB
  simp only [ne_eq, not_true_eq_false, if_false] at hB
  have hra : RU (Cut Any w.heap.size) w va (lim m) := RSl.cut (by omega) (fun _ _ h => h) ha.ru
  have hrb : RU (Cut Any w.heap.size) w vb (lim n) := RSl.cut (by omega) (fun _ _ h => h) hb.ru
  obtain ⟨a1, c1, rfl⟩ := ha.shape
  obtain ⟨a2, c2, rfl⟩ := hb.shape
  obtain ⟨xs, hxs⟩ : ∃ xs, lim m = xs := ⟨_, rfl⟩
  obtain ⟨ys, hys⟩ : ∃ ys, lim n = ys := ⟨_, rfl⟩
  have hvx : val xs = (m : Int) := by rw [← hxs, val_lim]
  have hvy : val ys = (n : Int) := by rw [← hys, val_lim]
  have hlx : Lim xs := by rw [← hxs]; exact lim_Lim m
  have hly : Lim ys := by rw [← hys]; exact lim_Lim n
  rw [hxs] at hra hB hla ⊢
  rw [hys] at hrb hB hlb ⊢
  obtain ⟨La, hLa⟩ : ∃ La, xs.length = La := ⟨_, rfl⟩
  obtain ⟨Lb, hLb⟩ : ∃ Lb, ys.length = Lb := ⟨_, rfl⟩
  rw [hLa] at hra hB hla ⊢
  rw [hLb] at hrb hB hlb ⊢
  obtain ⟨M0, hM0⟩ : ∃ M0, max La Lb = M0 := ⟨_, rfl⟩
  obtain ⟨M, hM⟩ : ∃ M, M0 + 1 = M := ⟨_, rfl⟩
  have q1 : max (La : Int) (Lb : Int) = (M0 : Int) := by omega
  have q2 : (M0 : Int) + 1 = (M : Int) := by omega
  have q4 := i64_small (x := (M : Int)) (by omega) (by omega)
  have hMb : M ≤ 200 := by omega
  have hmk := run_make_row' (P := Tryz.prog) 52 128 (.int .u32 0) 4 Tryz.underlying52 Tryz.infoU32 rfl .i64 .i64 M (by omega) (by omega)
  have hA0 := Arr.madeN (k := .u32) w M 128
  have hb0 := below_new w (.cells (madeCells #[.int .u32 0] M) 128)
  have HB := Lib.hid hB; have Hx := Lib.hid (And.intro hvx (And.intro hlx hLa)); have Hy := Lib.hid (And.intro hvy (And.intro hly hLb)); have HMM := Lib.hid (And.intro hM0 hM)
  clear hB hvx hvy hlx hly hLa hLb hxs hys hM0 hM ha hb
  go_enter Tryz.func110, Tryz.ntmps110
  go_wp2_with (go_at_call 108; refine HB.out.mono ?_; rintro e w1 ⟨rfl, rfl⟩)
  go_loopw [8, 9, 25] (fun cv _ iv wr => ∃ (i : Nat) (c : Int) (ds : List Int), iv = .int .i64 i ∧ cv = .int .u32 c ∧ i ≤ M ∧ 0 ≤ c ∧ c ≤ 1 ∧ Hid (ds.length = i ∧ Lim ds ∧ val (xs.take i) + val (ys.take i) = val ds + c * pw i) ∧ Hid (Arr .u32 wr w.heap.size 128 (ds ++ List.replicate (M - i) 0)) ∧ Below w.heap.size w wr) (fun _ _ iv _ => M - (intOf iv).toNat)
  case atStart => exact ⟨0, 0, [], rfl, rfl, Nat.zero_le _, by omega, by omega, Lib.hid ⟨rfl, Lim.nil, by simp [val]⟩, Lib.hid (by simpa using hA0), hb0⟩
  case round =>
    obtain ⟨i, c, ds, rfl, rfl, hi, hc0, hc1, hd, hAr, hb⟩ := hrel
    have hrbr : RU (Cut Any w.heap.size) wr (.slice a2 Lb c2) ys := hrb.same (fun b _ hS => hb.block b hS.2)
    have hrar : RU (Cut Any w.heap.size) wr (.slice a1 La c1) xs := hra.same (fun b _ hS => hb.block b hS.2)
    by_cases hlt : i < M
    · obtain ⟨hd1, hd2, hd3⟩ := hd.out
      have hxD := Hx.out.2.1.getD i
      have hyD := Hy.out.2.1.getD i
      have e1 := val_take_getD xs i
      have e2 := val_take_getD ys i
      have hL1 := natLimb _ a1 La c1 xs i wr hrar
      have hL2 := natLimb _ a2 Lb c2 ys i wr hrbr
      obtain ⟨x, hx⟩ : ∃ x, xs.getD i 0 = x := ⟨_, rfl⟩
      obtain ⟨y, hy⟩ : ∃ y, ys.getD i 0 = y := ⟨_, rfl⟩
      rw [hx] at hxD e1 hL1
      rw [hy] at hyD e2 hL2
      have hBA := fun W => bitsAdd x y c W hxD hyD ⟨hc0, hc1⟩
      obtain ⟨s1, s2, s3, s4, s5⟩ := add_spec x y c hxD.1 hxD.2 hyD.1 hyD.2 hc0 hc1
      obtain ⟨D, hD⟩ : ∃ D, (x + y + c) % 4294967296 = D := ⟨_, rfl⟩
      obtain ⟨c', hc'⟩ : ∃ c', (x + y + c) / 4294967296 = c' := ⟨_, rfl⟩
      rw [hD, hc'] at hBA s1
      rw [hc'] at s2 s3
      rw [hD] at s4 s5
      have hfin : (ds ++ [D]).length = i + 1 ∧ Lim (ds ++ [D]) ∧ val (xs.take (i + 1)) + val (ys.take (i + 1)) = val (ds ++ [D]) + c' * pw (i + 1) := by
        refine ⟨by rw [List.length_append, hd1]; rfl, Lim.append.2 ⟨hd2, Lim.cons.2 ⟨⟨s4, s5⟩, Lim.nil⟩⟩, ?_⟩
        rw [e1, e2, val_snoc, hd1, pw_succ]
        have e3 : val (ys.take i) = val ds + c * pw i - val (xs.take i) := by omega
        rw [e3]
        have e4 : x = D + 4294967296 * c' - y - c := by omega
        rw [e4]
        grind
      have hl0 : (ds ++ List.replicate (M - i) 0).length = M := by rw [List.length_append, List.length_replicate, hd1]; omega
      have hcu : wr.cell? ⟨w.heap.size, i, none⟩ = some (.int .u32 0) := hAr.out.get (by
        rw [List.getElem?_append_right (by omega), hd1, Nat.sub_self, List.getElem?_replicate, if_pos (by omega)])
      have hfu : wr.frozen? ⟨w.heap.size, i, none⟩ = false := hAr.out.frozen _
      have hset : ∀ W, W = wr → Arr .u32 (W.setCell ⟨w.heap.size, i, none⟩ (.int .u32 D)) w.heap.size 128 ((ds ++ [D]) ++ List.replicate (M - (i + 1)) 0) := fun W e => by
        subst e
        rw [← set_zeros hd1 hlt D]
        exact hAr.out.set _ _
      have hiM : (i : Int) < (M : Int) := by omega
      have hgl : w.heap.size < wr.heap.size := hAr.out.lt
      have Hfin := Lib.hid hfin; have HBA := Lib.hid hBA; have Hset := Lib.hid hset; have HL1 := Lib.hid hL1; have HL2 := Lib.hid hL2
      clear hfin hBA hset hL1 hL2 hD hc' s1 hd1 hd2 hd3 e1 e2 hx hy hxD hyD hl0
      have st0 := Lib.hid True.intro
      go_wp2_with (first
        | (go_at_call 143; refine (HBA.out _).mono ?_; rintro e w1 ⟨rfl, rfl⟩)
        | (have := st1; go_at_call 144; clear st1; refine HL2.out.mono ?_; rintro e w1 ⟨rfl, rfl⟩; clear this)
        | (have := st0; go_at_call 144; clear st0; refine HL1.out.mono ?_; rintro e w1 ⟨rfl, rfl⟩; clear this; have st1 := Lib.hid True.intro))
      exact ⟨⟨i + 1, c', _, by go_num, rfl, by omega, s2, s3, Hfin, Lib.hid (Hset.out _ rfl), hb.setCell (by simp) _⟩, by simp [intOf]; omega⟩
    · obtain rfl : M = i := by omega
      obtain ⟨hd1, hd2, hd3⟩ := hd.out
      have hM := HMM.out
      have hv : val ds = ((m + n : Nat) : Int) := by
        have hxl := Hx.out.2.2
        have hyl := Hy.out.2.2
        rw [List.take_of_length_le (by omega), List.take_of_length_le (by omega)] at hd3
        have h1 := val_lt Hx.out.2.1
        have h2 := val_lt Hy.out.2.1
        have h3 := pw_mono (show xs.length ≤ M0 by omega)
        have h4 := pw_mono (show ys.length ≤ M0 by omega)
        have h5 := pw_pos M0
        have h6 : pw M = 4294967296 * pw M0 := by rw [← hM.2, pw_succ]
        have h7 := val_nonneg hd2
        have hc : c = 0 := by
          rcases (show c = 0 ∨ c = 1 by omega) with h | h
          · exact h
          · rw [h, Int.one_mul] at hd3; omega
        rw [hc, Int.zero_mul, Hx.out.1, Hy.out.1] at hd3
        omega
      have hA2 : Arr .u32 wr w.heap.size 128 ds := by have := hAr.out; rwa [Nat.sub_self, List.replicate_zero, List.append_nil] at this
      have hF := natFits Any (.slice (some ⟨w.heap.size, 0, none⟩) M M) ds (m + n) wr (hA2.all (S := Any) trivial (Lim.wf hd2) (by omega) hd1.symm (Nat.le_refl _)) hv
      have HF := Lib.hid hF
      clear hF hd1 hd2 hd3 hv hM hA2
      by_cases hl : (lim (m + n)).length ≤ 96
      · go_wp2_with (go_at_call 142; refine HF.out.mono ?_; rintro e w3 ⟨hf1, hf2, hf3⟩; obtain ⟨a3, c3, rfl, hN⟩ := hf1 hl; have HN := Lib.hid hN; clear hN hf1 hf2)
        go_ret2
        exact ⟨fun _ => ⟨a3, c3, rfl, HN.out⟩, fun h => by omega, hb.trans (hf3.mono hb.size)⟩
      · go_wp2_with (go_at_call 142; refine HF.out.mono ?_; rintro e w3 ⟨hf1, hf2, hf3⟩; have he := hf2 (by omega); subst he; clear hf1 hf2)
        go_ret2
        exact ⟨fun h => by omega, fun _ => rfl, hb.trans (hf3.mono hb.size)⟩
end Go.Proofs.YtogngcbflhdadaaGreat

/- Ratios: sum, does and Add of the program, at valid ratios that are not negative and whose products are small. -/
namespace Go.Proofs.YtogngcbflhdadaaGreat
open Go Go.RowKit Go.Shelf Limb

/-- A ratio that is not negative, of numerator P and denominator Q. -/
def GivesPQ (P Q : Nat) (w : World) (e : Ending) (w' : World) : Prop :=
  ∃ a c a' c', e = .returned (.tuple #[.agg #[.bool false, .slice a (lim P).length c, .slice a' (lim Q).length c'], .int .i64 0]) ∧ RU Any w' (.slice a (lim P).length c) (lim P) ∧ RU Any w' (.slice a' (lim Q).length c') (lim Q) ∧ Below w.heap.size w w'
set_option maxHeartbeats 2000000 in
set_option maxRecDepth 100000 in
theorem ratSum (v1 v2 v3 v4 : Value) (m1 n1 m2 n2 : Nat) (w : World) (h1 : NumAt w v1 m1) (h2 : NumAt w v2 n1) (h3 : NumAt w v3 m2) (h4 : NumAt w v4 n2) (l1 : (lim m1).length ≤ 96) (l2 : (lim n1).length ≤ 96) (l3 : (lim m2).length ≤ 96) (l4 : (lim n2).length ≤ 96) (z1 : 0 < n1) (z2 : 0 < n2)
    (f1 : (lim (m1 * n2)).length ≤ 96) (f2 : (lim (m2 * n1)).length ≤ 96) (f3 : (lim (n1 * n2)).length ≤ 96) (f4 : (lim (m1 * n2 + m2 * n1)).length ≤ 96) :
    Calls Tryz.prog 77 #[.agg #[.bool false, v1, v2, .bool false, v3, v4]] w (GivesPQ ((m1 * n2 + m2 * n1) / Nat.gcd (m1 * n2 + m2 * n1) (n1 * n2)) ((n1 * n2) / Nat.gcd (m1 * n2 + m2 * n1) (n1 * n2)) w) := by
  obtain ⟨a1, c1, rfl⟩ := h1.shape
  obtain ⟨a2, c2, rfl⟩ := h2.shape
  obtain ⟨a3, c3, rfl⟩ := h3.shape
  obtain ⟨a4, c4, rfl⟩ := h4.shape
  obtain ⟨W0, hW0⟩ : ∃ W0, W0 = (w.alloc (.cells #[.bool false, .slice a1 (lim m1).length c1, .slice a2 (lim n1).length c2, .bool false, .slice a3 (lim m2).length c3, .slice a4 (lim n2).length c4] 104)).alloc (.cells #[.bool false, .slice none 0 0, .slice none 0 0] 54) := ⟨_, rfl⟩
  have hb0 : Below w.heap.size w W0 := by rw [hW0]; exact (below_new w _).alloc (by simp) _
  have hz0 : W0.heap.size = w.heap.size + 2 := by rw [hW0]; simp
  have hgA : W0.heap[w.heap.size]? = some (.cells #[.bool false, .slice a1 (lim m1).length c1, .slice a2 (lim n1).length c2, .bool false, .slice a3 (lim m2).length c3, .slice a4 (lim n2).length c4] 104 (0, 0)) := by rw [hW0]; exact box_old _ (box_new w _)
  have hgB : W0.heap[w.heap.size + 1]? = some (.cells #[.bool false, .slice none 0 0, .slice none 0 0] 54 (0, 0)) := by rw [hW0]; simpa using box_new (w.alloc (.cells #[.bool false, .slice a1 (lim m1).length c1, .slice a2 (lim n1).length c2, .bool false, .slice a3 (lim m2).length c3, .slice a4 (lim n2).length c4] 104)) (.cells #[.bool false, .slice none 0 0, .slice none 0 0] 54)
  obtain ⟨p, hp⟩ : ∃ p, m1 * n2 = p := ⟨_, rfl⟩
  obtain ⟨q, hq⟩ : ∃ q, m2 * n1 = q := ⟨_, rfl⟩
  obtain ⟨d, hd⟩ : ∃ d, n1 * n2 = d := ⟨_, rfl⟩
  have hX := (ratCrossed false false _ _ _ _ m1 n1 m2 n2 W0 (h1.same hb0) (h2.same hb0) (h3.same hb0) (h4.same hb0) l1 l2 l3 l4).mono fun e w' hh => (show ∃ a c a' c', e = Ending.returned (.tuple #[.slice a (lim p).length c, .slice a' (lim q).length c', .int .i64 0]) ∧ NumAt w' (.slice a (lim p).length c) p ∧ NumAt w' (.slice a' (lim q).length c') q ∧ Below W0.heap.size W0 w' from by
    rw [hp] at hh f1; rw [hq] at hh f2
    obtain ⟨u, v, hc, hb⟩ := hh
    rcases hc with ⟨-, -, k1, k2, rfl⟩ | ⟨k, -⟩
    · obtain ⟨x1, y1, rfl⟩ := k1.shape
      obtain ⟨x2, y2, rfl⟩ := k2.shape
      exact ⟨_, _, _, _, rfl, k1, k2, hb⟩
    · exact absurd ⟨f1, f2⟩ k)
  have hFit : ∀ (N : Nat) (W W' : World) (e : Ending), (lim N).length ≤ 96 → FitGives N W e W' → ∃ a c, e = .returned (.tuple #[.slice a (lim N).length c, .int .i64 0]) ∧ NumAt W' (.slice a (lim N).length c) N ∧ Below W.heap.size W W' := fun N W W' e hl hh => by
    obtain ⟨k1, -, k3⟩ := hh
    obtain ⟨a, c, k4, k5⟩ := k1 hl
    exact ⟨a, c, k4, k5, k3⟩
  have hMu := fun (W : World) (hW : Below W0.heap.size W0 W) => (natMul _ _ n1 n2 W ((h2.same hb0).same hW) ((h4.same hb0).same hW) l2 l4).mono fun e w' hh => hFit _ _ _ _ f3 hh
  rw [hd] at hMu f3
  rw [hp, hq, hd] at ⊢
  rw [hp] at f1 f4
  rw [hq] at f2 f4
  have hd0 : 0 < d := by rw [← hd]; exact Nat.mul_pos z1 z2
  have hCm := fun (W : World) u v (k1 : NumAt W u p) (k2 : NumAt W v q) => natCmp u v p q W k1 k2 f1 f2
  have hAd := fun (W : World) u v (k1 : NumAt W u p) (k2 : NumAt W v q) => (natAdd u v p q W k1 k2 f1 f2).mono fun e w' hh => hFit _ _ _ _ f4 hh
  have hLo := fun (W : World) u v (k1 : NumAt W u (p + q)) (k2 : NumAt W v d) => ratLowest false u v (p + q) d W k1 k2 f4 f3 hd0
  simp only [Bool.false_and] at hLo
  obtain ⟨P, hP⟩ : ∃ P, (p + q) / Nat.gcd (p + q) d = P := ⟨_, rfl⟩
  obtain ⟨Q, hQ⟩ : ∃ Q, d / Nat.gcd (p + q) d = Q := ⟨_, rfl⟩
  obtain ⟨sm, hsm⟩ : ∃ s, p + q = s := ⟨_, rfl⟩
  rw [hP, hQ] at hLo ⊢
  rw [hsm] at hAd hLo
  obtain ⟨cm, hcm⟩ : ∃ c, cmpN p q = c := ⟨_, rfl⟩
  rw [hcm] at hCm
  have hcell : ∀ W, Below W0.heap.size W0 W → (∀ i, W.cell? ⟨w.heap.size, i, none⟩ = (#[.bool false, .slice a1 (lim m1).length c1, .slice a2 (lim n1).length c2, .bool false, .slice a3 (lim m2).length c3, .slice a4 (lim n2).length c4] : Array Value)[i]?) ∧ (∀ i, W.cell? ⟨w.heap.size + 1, i, none⟩ = (#[.bool false, .slice none 0 0, .slice none 0 0] : Array Value)[i]?) ∧ (∀ i, W.frozen? ⟨w.heap.size + 1, i, none⟩ = false) ∧ w.heap.size + 1 < W.heap.size := fun W hW => ⟨(own_box hW (by omega) hgA).2.1, (own_box hW (by omega) hgB).2.1, (own_box hW (by omega) hgB).2.2, by have := hW.size; omega⟩
  generalize (lim m1).length = L1 at *
  generalize (lim n1).length = L2 at *
  generalize (lim m2).length = L3 at *
  generalize (lim n2).length = L4 at *
  have hfin : ∀ (w3 : World) v n, Below W0.heap.size W0 w3 → NumAt w3 v n → ∀ w', Same (fun b => b ≠ w.heap.size + 1) w3 w' → NumAt w' v n := fun w3 v n hW k w' hs => by
    obtain ⟨g1, -, -⟩ := own_box hW (by omega) hgB
    exact k.kept g1 (bss_ne _ _ _ (by simp) (by simp)) hs
  have HX := Lib.hid hX; have HMu := Lib.hid hMu; have HCm := Lib.hid hCm; have HAd := Lib.hid hAd; have HLo := Lib.hid hLo; have HC := Lib.hid hcell; have HFn := Lib.hid hfin; have Hb0 := Lib.hid hb0; have Hz0 := Lib.hid hz0
  clear hX hMu hCm hAd hLo hcell hfin hb0 hz0 hFit hgA hgB h1 h2 h3 h4 l1 l2 l3 l4 f1 f2 f3 f4 hp hq hd hP hQ hsm hcm z1 z2 hd0
  have st0 := Lib.hid True.intro
  subst hW0
  go_enter Tryz.func77, Tryz.ntmps77
  go_wp2_with (first
    | (have := st4; go_at_call 112; clear st4; refine (HLo.out _ _ _ HN4.out HD4.out).mono ?_; rintro e w5 ⟨a10, c10, a11, c11, rfl, k1, k2, hb⟩; have B5 := Lib.hid (bt B4.out hb); obtain ⟨-, y1, z1, y3⟩ := HC.out w5 B5.out; have y10 := y1 0; have y11 := y1 1; have y12 := y1 2; have HP5 := Lib.hid k1; have HQ5 := Lib.hid k2; clear k1 k2 hb this)
    | (have := st3; go_at_call 110; clear st3; refine (HAd.out _ _ _ (HP3.out.same (below_new w3 _)) (HQ3.out.same (below_new w3 _))).mono ?_; rintro e w4 ⟨a8, c8, rfl, k1, hb⟩; have B4 := Lib.hid (bt B3.out (bt (below_new w3 _) hb)); have HD4 := Lib.hid ((HD3.out.same (below_new w3 _)).same hb); have HN4 := Lib.hid k1; clear k1 hb this; have st4 := Lib.hid True.intro)
    | (have := st2; go_at_call 73; clear st2; refine (HCm.out _ _ _ HP2.out HQ2.out).mono ?_; rintro e w3 ⟨rfl, hb⟩; have B3 := Lib.hid (bt B2.out hb); obtain ⟨x3, -, -, hz3⟩ := HC.out w3 B3.out; have hz30 : w.heap.size < w3.heap.size := (by omega); have x30 := x3 0; have x33 := x3 3; have HD3 := Lib.hid (HD2.out.same hb); have HP3 := Lib.hid (HP2.out.same hb); have HQ3 := Lib.hid (HQ2.out.same hb); clear hb this x3; have st3 := Lib.hid True.intro)
    | (have := st1; go_at_call 107; clear st1; refine (HMu.out w1 B1.out).mono ?_; rintro e w2 ⟨a7, c7, rfl, k1, hb⟩; have B2 := Lib.hid (bt B1.out hb); have HD2 := Lib.hid k1; have HP2 := Lib.hid (HP1.out.same hb); have HQ2 := Lib.hid (HQ1.out.same hb); clear k1 hb this; have st2 := Lib.hid True.intro)
    | (have := st0; go_at_call 72; clear st0; refine HX.out.mono ?_; rintro e w1 ⟨a5, c5, a6, c6, rfl, k1, k2, hb⟩; have B1 := Lib.hid hb; obtain ⟨x1, -, -, -⟩ := HC.out w1 B1.out; have x12 := x1 2; have x15 := x1 5; have HP1 := Lib.hid k1; have HQ1 := Lib.hid k2; clear k1 k2 hb this x1; have st1 := Lib.hid True.intro))
  refine bodyPost_ret (v := .tuple #[.agg #[.bool false, .slice a10 (lim P).length c10, .slice a11 (lim Q).length c11], .int .i64 0]) (by simp [results, Tryz.results77, go_sem, y1]) rfl ⟨a10, c10, a11, c11, rfl, (HFn.out _ _ _ B5.out HP5.out _ ?_).ru, (HFn.out _ _ _ B5.out HQ5.out _ ?_).ru, ?_⟩
  · exact (((Same.refl _ _).setCell (by simp) _).setCell (by simp) _).setCell (by simp) _
  · exact (((Same.refl _ _).setCell (by simp) _).setCell (by simp) _).setCell (by simp) _
  · exact ((((Hb0.out.trans (B5.out.mono (by rw [Hz0.out]; omega))).setCell (p := ⟨w.heap.size + 1, 0, none⟩) (by simp) _).setCell (p := ⟨w.heap.size + 1, 1, none⟩) (by simp) _).setCell (p := ⟨w.heap.size + 1, 2, none⟩) (by simp) _)
/-- A small valid ratio that is not negative. -/
structure Pos (w : World) (v1 v2 : Value) (m n : Nat) : Prop where
  num : NumAt w v1 m
  den : NumAt w v2 n
  ok : ratChk false (lim m) (lim n) = 0
  l1 : (lim m).length ≤ 96
  l2 : (lim n).length ≤ 96
  pos : 0 < n
theorem Pos.same {w w' : World} {v1 v2 : Value} {m n : Nat} (h : Pos w v1 v2 m n) (hb : Below w.heap.size w w') : Pos w' v1 v2 m n := ⟨h.num.same hb, h.den.same hb, h.ok, h.l1, h.l2, h.pos⟩
/-- The sum's parts are small. -/
structure AddFit (m1 n1 m2 n2 : Nat) : Prop where
  f1 : (lim (m1 * n2)).length ≤ 96
  f2 : (lim (m2 * n1)).length ≤ 96
  f3 : (lim (n1 * n2)).length ≤ 96
  f4 : (lim (m1 * n2 + m2 * n1)).length ≤ 96
/-- Numerator and denominator of a sum. -/
def sumN (m1 n1 m2 n2 : Nat) : Nat := (m1 * n2 + m2 * n1) / Nat.gcd (m1 * n2 + m2 * n1) (n1 * n2)
def sumD (m1 n1 m2 n2 : Nat) : Nat := (n1 * n2) / Nat.gcd (m1 * n2 + m2 * n1) (n1 * n2)
set_option maxHeartbeats 2000000 in
set_option maxRecDepth 100000 in
theorem ratDoes (v1 v2 v3 v4 : Value) (m1 n1 m2 n2 : Nat) (w : World) (h1 : Pos w v1 v2 m1 n1) (h2 : Pos w v3 v4 m2 n2) (hf : AddFit m1 n1 m2 n2) :
    Calls Tryz.prog 76 #[.agg #[.bool false, v1, v2, .bool false, v3, v4], .func (.func 77) #[.agg #[.bool false, v1, v2, .bool false, v3, v4]] #[]] w (GivesPQ (sumN m1 n1 m2 n2) (sumD m1 n1 m2 n2) w) := by
  obtain ⟨a1, c1, rfl⟩ := h1.num.shape
  obtain ⟨a2, c2, rfl⟩ := h1.den.shape
  obtain ⟨a3, c3, rfl⟩ := h2.num.shape
  obtain ⟨a4, c4, rfl⟩ := h2.den.shape
  obtain ⟨W0, hW0⟩ : ∃ W0, W0 = (w.alloc (.cells #[.bool false, .slice a1 (lim m1).length c1, .slice a2 (lim n1).length c2, .bool false, .slice a3 (lim m2).length c3, .slice a4 (lim n2).length c4] 104)).alloc (.cells #[.bool false, .slice none 0 0, .slice none 0 0] 54) := ⟨_, rfl⟩
  have hb0 : Below w.heap.size w W0 := by rw [hW0]; exact (below_new w _).alloc (by simp) _
  have hz0 : W0.heap.size = w.heap.size + 2 := by rw [hW0]; simp
  have hgA : W0.heap[w.heap.size]? = some (.cells #[.bool false, .slice a1 (lim m1).length c1, .slice a2 (lim n1).length c2, .bool false, .slice a3 (lim m2).length c3, .slice a4 (lim n2).length c4] 104 (0, 0)) := by rw [hW0]; exact box_old _ (box_new w _)
  have hgB : W0.heap[w.heap.size + 1]? = some (.cells #[.bool false, .slice none 0 0, .slice none 0 0] 54 (0, 0)) := by rw [hW0]; simpa using box_new (w.alloc (.cells #[.bool false, .slice a1 (lim m1).length c1, .slice a2 (lim n1).length c2, .bool false, .slice a3 (lim m2).length c3, .slice a4 (lim n2).length c4] 104)) (.cells #[.bool false, .slice none 0 0, .slice none 0 0] 54)
  have hK1 := fun (W : World) (hW : Below W0.heap.size W0 W) => ratCheck Any Any false _ _ _ _ W (((h1.num.same hb0).same hW).ru) (((h1.den.same hb0).same hW).ru)
  have hK2 := fun (W : World) (hW : Below W0.heap.size W0 W) => ratCheck Any Any false _ _ _ _ W (((h2.num.same hb0).same hW).ru) (((h2.den.same hb0).same hW).ru)
  rw [h1.ok] at hK1
  rw [h2.ok] at hK2
  have hSm := fun (W : World) (hW : Below W0.heap.size W0 W) => ratSum _ _ _ _ m1 n1 m2 n2 W ((h1.num.same hb0).same hW) ((h1.den.same hb0).same hW) ((h2.num.same hb0).same hW) ((h2.den.same hb0).same hW) h1.l1 h1.l2 h2.l1 h2.l2 h1.pos h2.pos hf.f1 hf.f2 hf.f3 hf.f4
  have e1 : (m1 * n2 + m2 * n1) / Nat.gcd (m1 * n2 + m2 * n1) (n1 * n2) = sumN m1 n1 m2 n2 := rfl
  have e2 : (n1 * n2) / Nat.gcd (m1 * n2 + m2 * n1) (n1 * n2) = sumD m1 n1 m2 n2 := rfl
  simp only [e1, e2] at hSm
  unfold GivesPQ
  obtain ⟨P, hP⟩ : ∃ P, sumN m1 n1 m2 n2 = P := ⟨_, rfl⟩
  obtain ⟨Q, hQ⟩ : ∃ Q, sumD m1 n1 m2 n2 = Q := ⟨_, rfl⟩
  simp only [hP, hQ] at hSm ⊢
  have hcell : ∀ W, Below W0.heap.size W0 W → (∀ i, W.cell? ⟨w.heap.size, i, none⟩ = (#[.bool false, .slice a1 (lim m1).length c1, .slice a2 (lim n1).length c2, .bool false, .slice a3 (lim m2).length c3, .slice a4 (lim n2).length c4] : Array Value)[i]?) ∧ (∀ i, W.cell? ⟨w.heap.size + 1, i, none⟩ = (#[.bool false, .slice none 0 0, .slice none 0 0] : Array Value)[i]?) ∧ (∀ i, W.frozen? ⟨w.heap.size + 1, i, none⟩ = false) ∧ w.heap.size + 1 < W.heap.size := fun W hW => ⟨(own_box hW (by omega) hgA).2.1, (own_box hW (by omega) hgB).2.1, (own_box hW (by omega) hgB).2.2, by have := hW.size; omega⟩
  have hfin : ∀ (w3 : World) v xs, Below W0.heap.size W0 w3 → RU Any w3 v xs → ∀ w', Same (fun b => b ≠ w.heap.size + 1) w3 w' → RU Any w' v xs := fun w3 v xs hW k w' hs => by
    obtain ⟨g1, -, -⟩ := own_box hW (by omega) hgB
    exact RSl.mono (fun _ _ _ h => h) (fun _ _ => trivial) ((k.avoid g1 (bss_ne _ _ _ (by simp) (by simp))).same hs)
  generalize (lim m1).length = L1 at *
  generalize (lim n1).length = L2 at *
  generalize (lim m2).length = L3 at *
  generalize (lim n2).length = L4 at *
  have HK1 := Lib.hid hK1; have HK2 := Lib.hid hK2; have HSm := Lib.hid hSm; have HC := Lib.hid hcell; have HFn := Lib.hid hfin; have Hb0 := Lib.hid hb0; have Hz0 := Lib.hid hz0
  clear hK1 hK2 hSm hcell hfin hb0 hz0 hgA hgB h1 h2 hf hP hQ e1 e2
  have eg : ∀ args w, (callFunc 77 args).run Tryz.prog w = .ok (.enter 77 args) w := enters_of Tryz.func77 (by kernel_rfl) rfl
  have st0 := Lib.hid True.intro
  subst hW0
  go_enter Tryz.func76, Tryz.ntmps76
  go_wp2_with (first
    | (have := st2; go_at_fn 77; clear st2; refine (HSm.out w2 B2.out).mono ?_; rintro e w5 ⟨a10, c10, a11, c11, rfl, k1, k2, hb⟩; have B5 := Lib.hid (bt B2.out hb); obtain ⟨-, y1, z1, y3⟩ := HC.out w5 B5.out; have y10 := y1 0; have y11 := y1 1; have y12 := y1 2; have HP5 := Lib.hid k1; have HQ5 := Lib.hid k2; clear k1 k2 hb this)
    | (have := st1; go_at_call 70; clear st1; refine (HK2.out w1 B1.out).mono ?_; rintro e w2 ⟨rfl, hb⟩; have B2 := Lib.hid (bt B1.out hb); clear hb this; have st2 := Lib.hid True.intro)
    | (have := st0; go_at_call 70; clear st0; refine (HK1.out _ (Below.refl _ _)).mono ?_; rintro e w1 ⟨rfl, hb⟩; have B1 := Lib.hid hb; obtain ⟨x1, -, -, -⟩ := HC.out w1 B1.out; have x13 := x1 3; have x14 := x1 4; have x15 := x1 5; clear hb this x1; have st1 := Lib.hid True.intro))
  refine bodyPost_ret (v := .tuple #[.agg #[.bool false, .slice a10 (lim P).length c10, .slice a11 (lim Q).length c11], .int .i64 0]) (by simp [results, Tryz.results76, go_sem, y1]) rfl ⟨a10, c10, a11, c11, rfl, HFn.out _ _ _ B5.out HP5.out _ ?_, HFn.out _ _ _ B5.out HQ5.out _ ?_, ?_⟩
  · exact (((Same.refl _ _).setCell (by simp) _).setCell (by simp) _).setCell (by simp) _
  · exact (((Same.refl _ _).setCell (by simp) _).setCell (by simp) _).setCell (by simp) _
  · exact ((((Hb0.out.trans (B5.out.mono (by rw [Hz0.out]; omega))).setCell (p := ⟨w.heap.size + 1, 0, none⟩) (by simp) _).setCell (p := ⟨w.heap.size + 1, 1, none⟩) (by simp) _).setCell (p := ⟨w.heap.size + 1, 2, none⟩) (by simp) _)
set_option maxHeartbeats 2000000 in
set_option maxRecDepth 100000 in
theorem ratAdd (v1 v2 v3 v4 : Value) (m1 n1 m2 n2 : Nat) (w : World) (h1 : Pos w v1 v2 m1 n1) (h2 : Pos w v3 v4 m2 n2) (hf : AddFit m1 n1 m2 n2) :
    Calls Tryz.prog 41 #[.agg #[.bool false, v1, v2], .agg #[.bool false, v3, v4]] w (GivesPQ (sumN m1 n1 m2 n2) (sumD m1 n1 m2 n2) w) := by
  obtain ⟨a1, c1, rfl⟩ := h1.num.shape
  obtain ⟨a2, c2, rfl⟩ := h1.den.shape
  obtain ⟨a3, c3, rfl⟩ := h2.num.shape
  obtain ⟨a4, c4, rfl⟩ := h2.den.shape
  obtain ⟨W0, hW0⟩ : ∃ W0, W0 = (((w.alloc (.cells #[.bool false, .slice a1 (lim m1).length c1, .slice a2 (lim n1).length c2] 54)).alloc (.cells #[.bool false, .slice a3 (lim m2).length c3, .slice a4 (lim n2).length c4] 54)).alloc (.cells #[.bool false, .slice none 0 0, .slice none 0 0] 54)).alloc (.cells #[.bool false, .slice a1 (lim m1).length c1, .slice a2 (lim n1).length c2, .bool false, .slice a3 (lim m2).length c3, .slice a4 (lim n2).length c4] 104) := ⟨_, rfl⟩
  have hb0 : Below w.heap.size w W0 := by rw [hW0]; exact (((below_new w _).alloc (by simp) _).alloc (by simp; omega) _).alloc (by simp; omega) _
  have hz0 : W0.heap.size = w.heap.size + 4 := by rw [hW0]; simp
  have hgB : W0.heap[w.heap.size + 2]? = some (.cells #[.bool false, .slice none 0 0, .slice none 0 0] 54 (0, 0)) := by
    rw [hW0]
    refine box_old _ ?_
    simpa using box_new ((w.alloc (.cells #[.bool false, .slice a1 (lim m1).length c1, .slice a2 (lim n1).length c2] 54)).alloc (.cells #[.bool false, .slice a3 (lim m2).length c3, .slice a4 (lim n2).length c4] 54)) (.cells #[.bool false, .slice none 0 0, .slice none 0 0] 54)
  have hD := ratDoes _ _ _ _ m1 n1 m2 n2 W0 (h1.same hb0) (h2.same hb0) hf
  unfold GivesPQ at hD ⊢
  obtain ⟨P, hP⟩ : ∃ P, sumN m1 n1 m2 n2 = P := ⟨_, rfl⟩
  obtain ⟨Q, hQ⟩ : ∃ Q, sumD m1 n1 m2 n2 = Q := ⟨_, rfl⟩
  simp only [hP, hQ] at hD ⊢
  have hcell : ∀ W, Below W0.heap.size W0 W → (∀ i, W.cell? ⟨w.heap.size + 2, i, none⟩ = (#[.bool false, .slice none 0 0, .slice none 0 0] : Array Value)[i]?) ∧ (∀ i, W.frozen? ⟨w.heap.size + 2, i, none⟩ = false) ∧ w.heap.size + 2 < W.heap.size := fun W hW => ⟨(own_box hW (by omega) hgB).2.1, (own_box hW (by omega) hgB).2.2, by have := hW.size; omega⟩
  have hfin : ∀ (w3 : World) v xs, Below W0.heap.size W0 w3 → RU Any w3 v xs → ∀ w', Same (fun b => b ≠ w.heap.size + 2) w3 w' → RU Any w' v xs := fun w3 v xs hW k w' hs => by
    obtain ⟨g1, -, -⟩ := own_box hW (by omega) hgB
    exact RSl.mono (fun _ _ _ h => h) (fun _ _ => trivial) ((k.avoid g1 (bss_ne _ _ _ (by simp) (by simp))).same hs)
  generalize (lim m1).length = L1 at *
  generalize (lim n1).length = L2 at *
  generalize (lim m2).length = L3 at *
  generalize (lim n2).length = L4 at *
  have HD := Lib.hid hD; have HC := Lib.hid hcell; have HFn := Lib.hid hfin; have Hb0 := Lib.hid hb0; have Hz0 := Lib.hid hz0
  clear hD hcell hfin hb0 hz0 hgB h1 h2 hf hP hQ
  subst hW0
  go_enter Tryz.func41, Tryz.ntmps41
  go_wp2_with (go_at_call 76; refine HD.out.mono ?_; rintro e w5 ⟨a10, c10, a11, c11, rfl, k1, k2, hb⟩; have B5 := Lib.hid hb; obtain ⟨y1, z1, y3⟩ := HC.out w5 B5.out; have y10 := y1 0; have y11 := y1 1; have y12 := y1 2; have HP5 := Lib.hid k1; have HQ5 := Lib.hid k2; clear k1 k2 hb)
  refine bodyPost_ret (v := .tuple #[.agg #[.bool false, .slice a10 (lim P).length c10, .slice a11 (lim Q).length c11], .int .i64 0]) (by simp [results, Tryz.results41, go_sem, y1]) rfl ⟨a10, c10, a11, c11, rfl, HFn.out _ _ _ B5.out HP5.out _ ?_, HFn.out _ _ _ B5.out HQ5.out _ ?_, ?_⟩
  · exact (((Same.refl _ _).setCell (by simp) _).setCell (by simp) _).setCell (by simp) _
  · exact (((Same.refl _ _).setCell (by simp) _).setCell (by simp) _).setCell (by simp) _
  · exact ((((Hb0.out.trans (B5.out.mono (by rw [Hz0.out]; omega))).setCell (p := ⟨w.heap.size + 2, 0, none⟩) (by simp) _).setCell (p := ⟨w.heap.size + 2, 1, none⟩) (by simp) _).setCell (p := ⟨w.heap.size + 2, 2, none⟩) (by simp) _)
theorem pos_whole {S : Nat → Prop} {w : World} {c : Bool} {d e : Value} {x : Nat} (hx : x < 9223372036854775808) (h : VRt S w (.agg #[.bool c, d, e]) (whole (x : Int))) : c = false ∧ Pos w d e x 1 := by
  rw [whole_nat] at h
  obtain ⟨u1, u2, hh, h1, h2⟩ := h
  simp only [Value.agg.injEq, Array.mk.injEq, List.cons.injEq, and_true, Value.bool.injEq] at hh
  obtain ⟨rfl, rfl, rfl⟩ := hh
  have hl := lim_small_len hx
  have e1 := lim1
  refine ⟨rfl, NumAt.of h1, NumAt.of (by rw [e1]; exact h2), by rw [e1]; exact chk_whole hx, by omega, by rw [e1]; decide, by omega⟩
/-- The sum of two whole numbers. -/
theorem ratAddW (S T : Nat → Prop) (u v : Value) (a b : Nat) (w : World) (hu : VRt S w u (whole a)) (hv : VRt T w v (whole b)) (ha : a < 1000000000000) (hb : b < 1000000000000) :
    Calls Tryz.prog 41 #[u, v] w fun e w' => ∃ c1 d1 c2 d2, e = .returned (.tuple #[.agg #[.bool false, .slice c1 (lim (a + b)).length d1, .slice c2 1 d2], .int .i64 0]) ∧ VRt Any w' (.agg #[.bool false, .slice c1 (lim (a + b)).length d1, .slice c2 1 d2]) (whole ((a + b : Nat) : Int)) ∧ Below w.heap.size w w' := by
  have hu0 := hu
  have hv0 := hv
  obtain ⟨u1, u2, hue, -, -⟩ := hu0
  obtain ⟨v1, v2, hve, -, -⟩ := hv0
  rw [whole_nat] at hue hve
  simp only at hue hve
  subst hue hve
  have p1 := (pos_whole (by omega) hu).2
  have p2 := (pos_whole (by omega) hv).2
  have l1 := lim_small_len (n := a) (by omega)
  have l2 := lim_small_len (n := b) (by omega)
  have l3 := lim_small_len (n := a + b) (by omega)
  have e1 := lim1
  have h := ratAdd u1 u2 v1 v2 a 1 b 1 w p1 p2 ⟨by rw [Nat.mul_one]; omega, by rw [Nat.mul_one]; omega, by rw [Nat.mul_one, e1]; decide, by rw [Nat.mul_one, Nat.mul_one]; omega⟩
  have eN : sumN a 1 b 1 = a + b := by simp [sumN]
  have eD : sumD a 1 b 1 = 1 := by simp [sumD]
  rw [eN, eD] at h
  refine h.mono fun e w' hh => ?_
  obtain ⟨x1, y1, x2, y2, rfl, k1, k2, k3⟩ := hh
  rw [e1] at k2
  refine ⟨x1, y1, x2, y2, by rw [e1]; rfl, ?_, k3⟩
  rw [whole_nat]
  exact ⟨_, _, rfl, k1, k2⟩
end Go.Proofs.YtogngcbflhdadaaGreat

/- A sum of two whole numbers, kept in a box of its own; Whole's result. -/
namespace Go.Proofs.YtogngcbflhdadaaGreat
open Go Go.RowKit Go.Shelf Limb

/-- A whole number in a box that its parts do not lie in. -/
structure RtBox (w : World) (g n : Nat) (c1 : Option Addr) (d1 : Nat) (c2 : Option Addr) (d2 : Nat) : Prop where
  box : w.heap[g]? = some (.cells #[.bool false, .slice c1 (lim n).length d1, .slice c2 1 d2] 54 (0, 0))
  val : VRt (fun b => b ≠ g) w (.agg #[.bool false, .slice c1 (lim n).length d1, .slice c2 1 d2]) (whole (n : Int))
theorem RtBox.below {w w' : World} {g n d1 d2 : Nat} {c1 c2 : Option Addr} (h : RtBox w g n c1 d1 c2 d2) (hb : Below w.heap.size w w') : RtBox w' g n c1 d1 c2 d2 :=
  ⟨(hb.block _ (size_of_box h.box)).trans h.box, h.val.same (.of_below hb)⟩
theorem VRt.avoid {S : Nat → Prop} {w : World} {b : Bool} {u v : Value} {x : Rt} {g : Nat} {cs : Array Value} {e : TypeId} (h : VRt S w (.agg #[.bool b, u, v]) x) (hg : w.heap[g]? = some (.cells cs e (0, 0))) (hne : ∀ (i : Nat) (y : Int), cs[i]? ≠ some (Value.int .u32 y)) : VRt (fun b => b ≠ g) w (.agg #[.bool b, u, v]) x := by
  obtain ⟨u1, u2, hh, h1, h2⟩ := h
  exact ⟨u1, u2, hh, h1.avoid hg hne, h2.avoid hg hne⟩
/-- What Add gives, kept in a box of its own. -/
def AddR (wr : World) (n : Nat) (s1 s2 : Value) (wc : World) : Prop :=
  ∃ g c1 d1 c2 d2, s1 = .pointer (some ⟨g, 0, none⟩) ∧ s2 = .int .i64 0 ∧ RtBox wc g n c1 d1 c2 d2 ∧ Below wr.heap.size wr wc ∧ wr.heap.size ≤ g
theorem RtBox.lay {w4 : World} {n d1 d2 : Nat} {c1 c2 : Option Addr} {S : Nat → Prop} (hv : VRt S w4 (.agg #[.bool false, .slice c1 (lim n).length d1, .slice c2 1 d2]) (whole (n : Int))) :
    RtBox (w4.alloc (.cells #[.bool false, .slice c1 (lim n).length d1, .slice c2 1 d2] 54)) w4.heap.size n c1 d1 c2 d2 :=
  ⟨box_new _ _, (hv.same (.of_below (below_new _ _))).avoid (box_new _ _) (bss_ne _ _ _ (by simp) (by simp))⟩
theorem RtBox.store {w4 : World} {g n d1 d2 : Nat} {c1 c2 : Option Addr} {S : Nat → Prop} {x : Bool} {a1 a2 : Option Addr} {m1 m2 k1 k2 : Nat} (hg : w4.heap[g]? = some (.cells #[.bool x, .slice a1 m1 k1, .slice a2 m2 k2] 54 (0, 0)))
    (hv : VRt S w4 (.agg #[.bool false, .slice c1 (lim n).length d1, .slice c2 1 d2]) (whole (n : Int))) :
    RtBox (((w4.setCell ⟨g, 0, none⟩ (.bool false)).setCell ⟨g, 1, none⟩ (.slice c1 (lim n).length d1)).setCell ⟨g, 2, none⟩ (.slice c2 1 d2)) g n c1 d1 c2 d2 := by
  refine ⟨?_, ?_⟩
  · have := heap_setCell_at (o := 2) (heap_setCell_at (o := 1) (heap_setCell_at (o := 0) hg (.bool false)) (.slice c1 (lim n).length d1)) (.slice c2 1 d2)
    simpa using this
  · exact (hv.avoid hg (bss_ne _ _ _ (by simp) (by simp))).same ((((Same.refl _ _).setCell (p := ⟨g, 0, none⟩) (by simp) _).setCell (p := ⟨g, 1, none⟩) (by simp) _).setCell (p := ⟨g, 2, none⟩) (by simp) _)
theorem AddR.laid {wr w4 : World} {n d1 d2 : Nat} {c1 c2 : Option Addr} {S : Nat → Prop} (hv : VRt S w4 (.agg #[.bool false, .slice c1 (lim n).length d1, .slice c2 1 d2]) (whole (n : Int))) (hw : Below wr.heap.size wr w4) :
    AddR wr n (.pointer (some ⟨w4.heap.size, 0, none⟩)) (.int .i64 0) (w4.alloc (.cells #[.bool false, .slice c1 (lim n).length d1, .slice c2 1 d2] 54)) :=
  ⟨_, _, _, _, _, rfl, rfl, .lay hv, hw.alloc hw.size _, hw.size⟩
theorem AddR.stored {wr w4 : World} {g n d1 d2 : Nat} {c1 c2 : Option Addr} {S : Nat → Prop} {cs : Array Value} (hcs : cs = #[.bool false, .slice none 0 0, .slice none 0 0]) (hg : w4.heap[g]? = some (.cells cs 54 (0, 0)))
    (hv : VRt S w4 (.agg #[.bool false, .slice c1 (lim n).length d1, .slice c2 1 d2]) (whole (n : Int))) (hw : Below wr.heap.size wr w4) (hgw : wr.heap.size ≤ g) :
    AddR wr n (.pointer (some ⟨g, 0, none⟩)) (.int .i64 0) (((w4.setCell ⟨g, 0, none⟩ (.bool false)).setCell ⟨g, 1, none⟩ (.slice c1 (lim n).length d1)).setCell ⟨g, 2, none⟩ (.slice c2 1 d2)) := by
  subst hcs
  exact ⟨_, _, _, _, _, rfl, rfl, .store hg hv, ((hw.setCell (p := ⟨g, 0, none⟩) hgw _).setCell (p := ⟨g, 1, none⟩) hgw _).setCell (p := ⟨g, 2, none⟩) hgw _, hgw⟩
theorem whole_same {S T : Nat → Prop} {u v : Value} {a b : Nat} {w : World} (hab : a = b) (hx : VRt S w u (whole (a : Int))) (hy : VRt T w v (whole (b : Int))) : Calls Tryz.prog 28 #[u, v] w fun e w' => e = .returned (.bool true) ∧ Below w.heap.size w w' := by
  subst hab
  exact r04Same_eq S T u v _ w hx hy
theorem whole_of {S : Nat → Prop} {w : World} {u1 u2 : Option Addr} {m1 m2 n : Nat} (k1 : RU S w (.slice u1 (lim n).length m1) (lim n)) (k2 : RU S w (.slice u2 1 m2) [1]) : VRt S w (.agg #[.bool false, .slice u1 (lim n).length m1, .slice u2 1 m2]) (whole (n : Int)) := by
  rw [whole_nat]
  exact ⟨_, _, rfl, k1, k2⟩
theorem whole_cells {S : Nat → Prop} {w : World} {b : Bool} {a2 a3 : Option Addr} {m2 k2 m3 k3 n : Nat} (h : VRt S w (.agg #[.bool b, .slice a2 m2 k2, .slice a3 m3 k3]) (whole (n : Int))) : b = false ∧ m2 = (lim n).length ∧ m3 = 1 := by
  rw [whole_nat] at h
  obtain ⟨u1, u2, hh, h1, h2⟩ := h
  simp only [Value.agg.injEq, Array.mk.injEq, List.cons.injEq, and_true, Value.bool.injEq] at hh
  obtain ⟨rfl, rfl, rfl⟩ := hh
  exact ⟨rfl, RSl.len h1, RSl.len h2⟩
end Go.Proofs.YtogngcbflhdadaaGreat

/- The contract of the reference's Of: how many ballots have some marks. -/
namespace Go.Proofs.YtogngcbflhdadaaGreat
open Go Go.RowKit Go.Shelf

theorem cnt_at : ∀ {rows : List Row} {m : List Int} {k : Nat} (hk : k < rows.length), (∀ j (h : j < k), rows[j].marks ≠ m) → rows[k].marks = m → cnt rows m = rows[k].many
  | [], _, _, hk, _, _ => absurd hk (by simp)
  | r :: rs, m, 0, _, _, h2 => by
    rw [cnt]
    simp only [List.getElem_cons_zero] at h2 ⊢
    rw [if_pos h2]
  | r :: rs, m, k + 1, hk, h1, h2 => by
    have h0 := h1 0 (by omega)
    simp only [List.getElem_cons_zero] at h0
    simp only [List.getElem_cons_succ] at h2 ⊢
    rw [cnt, if_neg h0]
    exact cnt_at (by simpa using hk) (fun j hj => by have := h1 (j + 1) (by omega); simpa using this) h2
set_option maxHeartbeats 1000000 in
theorem r09Of (S T : Nat → Prop) (u v : Value) (rows : List Row) (m : List Int) (w : World) (h : RRows S w u rows) (hv : RInts T w v m) (hl : rows.length ≤ 1000000) :
    Calls Tryz.prog 40 #[u, v] w fun e w' => e = .returned (.int .i64 (cnt rows m)) ∧ Below w.heap.size w w' := by
  obtain ⟨a, cap, rfl, -, -⟩ := RSl.shape h
  obtain ⟨a2, cap2, rfl, -, -⟩ := RSl.shape hv
  have hH := fun (W : World) (hW : Below w.heap.size w W) => h.same (.of_below hW)
  have hI := fun (W : World) (x : Value) (xs : List Int) (hW : Below w.heap.size w W) (hx : RInts S W x xs) => ints08 S T x _ xs m W hx (hv.same (.of_below hW))
  obtain ⟨n, hn⟩ : ∃ n, rows.length = n := ⟨_, rfl⟩
  obtain ⟨nm, hnm⟩ : ∃ n, m.length = n := ⟨_, rfl⟩
  rw [hn] at hH hl ⊢
  rw [hnm] at hI ⊢
  have HH := Lib.hid hH; have HI := Lib.hid hI; have Hn := Lib.hid hn
  clear hH hI hn hnm h hv
  go_enter Tryz.func40, Tryz.ntmps40
  go_wp2
  go_loopw [5] (fun i wr => ∃ k : Nat, k ≤ n ∧ i = .int .i64 k ∧ Hid (∀ j (h : j < rows.length), j < k → rows[j].marks ≠ m) ∧ Below w.heap.size w wr) (fun i _ => n - (intOf i).toNat)
  case atStart => exact ⟨0, Nat.zero_le _, rfl, Lib.hid (fun _ _ h => absurd h (by omega)), Below.refl _ _⟩
  case round =>
    obtain ⟨k, hk, rfl, hne, hb⟩ := hrel
    have hz := hb.size
    by_cases hlt : k < n
    · have hlr : k < rows.length := by rw [Hn.out]; exact hlt
      obtain ⟨b, off, cc, dd, rfl, hS, hbw, hc, hd, hx⟩ := RSl.at2 (HH.out wr hb) k hlr
      obtain ⟨ax, capx, rfl, rfl, -, -, hIx⟩ := hx.open
      have hE := HI.out wr _ _ hb hIx
      obtain ⟨L, hL⟩ : ∃ L, rows[k].marks.length = L := ⟨_, rfl⟩
      obtain ⟨x, hx2⟩ : ∃ x, rows[k].many = x := ⟨_, rfl⟩
      rw [hL] at hE hc
      rw [hx2] at hd
      by_cases he : rows[k].marks = m
      · have hr : cnt rows m = x := by rw [← hx2]; exact cnt_at hlr (fun j hj => hne.out j (by omega) hj) he
        rw [eqL_int.2 he] at hE
        have HE := Lib.hid hE; have Hr := Lib.hid hr; have Hd := Lib.hid hd
        clear hE hr hx hIx hL hx2 hd he
        go_wp2_with (go_at_call 24; refine HE.out.mono ?_; rintro e w1 ⟨rfl, hb1⟩; have hd1 := (Same.of_below (S := Any) hb1).cell trivial Hd.out; have HB := Lib.hid (hb.trans (hb1.mono hz)); clear hb1)
        go_ret
        exact ⟨ret_int Hr.out.symm, HB.out⟩
      · have hf : eqL eqInt rows[k].marks m = false := by
          cases hq : eqL eqInt rows[k].marks m with
          | false => rfl
          | true => exact absurd (eqL_int.1 hq) he
        rw [hf] at hE
        have hne2 : ∀ j (h : j < rows.length), j < k + 1 → rows[j].marks ≠ m := fun j h1 h2 => by
          by_cases hj : j = k
          · subst hj; exact he
          · exact hne.out j h1 (by omega)
        have HE := Lib.hid hE; have Hne := Lib.hid hne2
        clear hE hx hIx hL hx2 hd he hf hne2 hne
        go_wp2_with (go_at_call 24; refine HE.out.mono ?_; rintro e w1 ⟨rfl, hb1⟩; have HB := Lib.hid (hb.trans (hb1.mono hz)); clear hb1)
        exact ⟨⟨k + 1, by omega, by go_num, Hne, HB.out⟩, by simp [intOf]; omega⟩
    · obtain rfl : k = n := by omega
      have hr : cnt rows m = 0 := cnt_zero fun s hs => by
        obtain ⟨j, hj, rfl⟩ := List.getElem_of_mem hs
        exact hne.out j hj (by have := Hn.out; omega)
      have Hr := Lib.hid hr
      clear hr hne
      go_wp2
      go_ret
      exact ⟨ret_int Hr.out.symm, hb⟩
end Go.Proofs.YtogngcbflhdadaaGreat

/- The law SingleMajority: its walk (printed by genmaj.py). -/
namespace Go.Proofs.YtogngcbflhdadaaGreat
open Go Go.RowKit Go.Shelf Limb

theorem sinPlurL (S T : Nat → Prop) (u v : Value) (p : Prof) (seats : Int) (lot : List Int) (w : World) (o : Outc) {n1 n2 n3 : Nat} (h : VProf S w u p) (hv : RInts T w v lot) (hlo : lot.length ≤ 1000000) (h0 : singleI 0 p seats lot = 0) (hO : singleV 0 p seats lot = o) (e1 : o.elected.length = n1) (e2 : o.rounds.length = n2) (e3 : o.ties.length = n3) :
    Calls Tryz.prog 14 #[u, .int .i64 seats, v] w fun e w' => ∃ b1 c1 b2 c2 b3 c3, e = .returned (.tuple #[.agg #[.slice b1 n1 c1, .slice b2 n2 c2, .slice b3 n3 c3], .int .i64 0]) ∧ VOutc Any w' (.agg #[.slice b1 n1 c1, .slice b2 n2 c2, .slice b3 n3 c3]) o ∧ Below w.heap.size w w' :=
  (sinPlurality S T u v p seats lot w h hv hlo).mono fun e w' hh => by
    obtain ⟨b1, m1, c1, b2, m2, c2, b3, m3, c3, rfl, k, hb⟩ := GivesSI.open hh
    rw [hO] at k
    obtain ⟨q1, q2, q3⟩ := k.parts
    obtain rfl : m1 = n1 := (RSl.len q1).trans e1
    obtain rfl : m2 = n2 := (RSl.len q2).trans e2
    obtain rfl : m3 = n3 := (RSl.len q3).trans e3
    rw [h0]
    exact ⟨_, _, _, _, _, _, rfl, VOutc.mono (fun _ _ => trivial) k, hb⟩
/-- What is known of a plurality count. -/
structure MajF (C : Nat) (had el : List Int) (rows : List Row) (f S : Nat → Nat) (many l0 : Nat) : Prop where
  hf : ∀ c, c < C → had.getD c 0 = (f c : Int)
  hc : ∀ c, c < C → cnt rows [(c : Int)] = (f c : Int)
  s0 : S 0 = l0
  ss : ∀ k, k < C → S (k + 1) = S k + f k
  sC : S C = many
  sb : ∀ k, k ≤ C → S k ≤ 1000000
  fb : ∀ c, c < C → f c ≤ 1000000
  win : ∀ c, c < C → many < 2 * f c → ∀ (h : 0 < el.length), el[0] = (c : Int)
theorem majF {p : Prof} {sn : Nat} {lot : List Int} {C : Nat} (h0 : singleI 0 p sn lot = 0) (hC : p.cands = (C : Int)) (hF : Facts 0 p sn lot C (hadL 0 p.rows C)) : ∃ (f S : Nat → Nat) (many l0 : Nat), sumR p.rows = (many : Int) ∧ lostS 0 p.rows = (l0 : Int) ∧ MajF C (hadL 0 p.rows C) (seatSt (hadL 0 p.rows C) lot sn).elected p.rows f S many l0 := by
  obtain ⟨ck, -, -, -, cm, cf, cr, csum⟩ := counted h0
  have hv := chkP_zero.1 (chk_of_single h0)
  have hmk : ∀ r ∈ p.rows, ∀ x ∈ r.marks, 0 ≤ x ∧ x < C := fun r hr x hx => by
    have h1 := cf r hr
    have hk2 : p.kind = 2 := ck
    rw [fineB, hC] at h1
    simp only at h1
    rw [if_neg (show ¬ p.kind = 3 by omega), if_pos hk2] at h1
    simp only [Bool.and_eq_true] at h1
    obtain ⟨i, hi, rfl⟩ := List.getElem_of_mem hx
    exact inB_get h1.1 i hi
  have hr0 : ∀ r ∈ p.rows, 0 ≤ r.many := fun r hr => by have := cm r hr; omega
  have hnn : ∀ x, 0 ≤ hadF 0 p.rows C x := fun x => (hadF_bound (rule := 0) (rows := p.rows) (c := C) (x := x) (m := 1) (by omega) fun r hr => ⟨hr0 r hr, (give_bound01 (marks := r.marks) (c := C) (x := x)).1, (give_bound01 (marks := r.marks) (c := C) (x := x)).2.1⟩).1
  have hls := (lostS_bound (rule := 0) hr0).1
  have hall := sumTo_all hmk
  have hmono : ∀ k n, k ≤ n → sumTo p.rows C k ≤ sumTo p.rows C n := fun k n h => by
    induction n with
    | zero => obtain rfl : k = 0 := by omega
              exact Int.le_refl _
    | succ n ih =>
      by_cases e : k = n + 1
      · rw [e]; exact Int.le_refl _
      · have h1 := ih (by omega)
        have := hnn n
        rw [sumTo_succ]; omega
  have hs0 : 0 ≤ sumTo p.rows C 0 := by rw [sumTo_zero]; exact hls
  have hsn : ∀ k, 0 ≤ sumTo p.rows C k := fun k => by have := hmono 0 k (by omega); omega
  refine ⟨fun c => (hadF 0 p.rows C c).toNat, fun k => (sumTo p.rows C k).toNat, (sumR p.rows).toNat, (lostS 0 p.rows).toNat, by have := hsn C; omega, by omega, ?_⟩
  have hget : ∀ c, c < C → (hadL 0 p.rows C).getD c 0 = hadF 0 p.rows C c := fun c hc => by
    rw [List.getD_eq_getElem?_getD, List.getElem?_eq_getElem (by rw [hadL_length]; exact hc)]
    simp only [hadL_fl, Option.getD_some]
    rw [fl_get]
  have hfle : ∀ c, c < C → hadF 0 p.rows C c ≤ sumR p.rows := fun c hc => by
    have h1 := hmono (c + 1) C (by omega)
    have := hsn c
    rw [sumTo_succ] at h1
    omega
  refine ⟨fun c hc => ?_, fun c hc => ?_, ?_, fun k hk => ?_, ?_, fun k hk => ?_, fun c hc => ?_, fun c hc h2 h => ?_⟩
  · rw [hget c hc]; have := hnn c; omega
  · rw [← plur_cnt (C := C) hv.asc]; have := hnn c; omega
  · simp only [sumTo_zero]
  · simp only [sumTo_succ]; have := hsn k; have := hnn k; omega
  · simp only [hall]
  · have := hmono k C hk; have := hsn k; omega
  · have := hfle c hc; have := hnn c; omega
  · have h3 := hF.s
    have h4 := hsn C
    exact half_wins hF.isLot hmk hr0 hc (by have := hnn c; omega) (by omega) h
set_option linter.unusedSimpArgs false in
set_option maxHeartbeats 16000000 in
set_option maxRecDepth 100000 in
theorem law_smaj (u v : Value) (p : Prof) (seats : Int) (lot : List Int) (w : World) (h : VProf Any w u p) (_ : (Lit.int .i64 seats).wf = true) (hv : RInts Any w v lot) :
    Calls Tryz.prog 9 #[u, .int .i64 seats, v] w fun e w' => e = .returned (.bool true) ∧ Below w.heap.size w w' := by
  have h1 := h
  obtain ⟨a, m, c, rfl⟩ := h.open
  obtain ⟨a2, c2, rfl, -, -⟩ := RSl.shape hv
  obtain ⟨W0, hW0⟩ : ∃ W0, W0 = w.alloc (.cells #[.int .i64 p.cands, .int .u8 p.kind, .slice a m c] 24) := ⟨_, rfl⟩
  have hb0 : Below w.heap.size w W0 := by rw [hW0]; exact below_new w _
  have hg0 : W0.heap[w.heap.size]? = some (.cells #[.int .i64 p.cands, .int .u8 p.kind, .slice a m c] 24 (0, 0)) := by rw [hW0]; exact box_new w _
  have hP := h1.same (.of_below hb0)
  have hL := hv.same (.of_below hb0)
  have hMay := l11May Any Any 0 _ _ p seats lot W0 hP hL
  by_cases hm : mayS 0 p seats lot = true
  · obtain ⟨r, hr0, hr, h0⟩ := mayS_true hm
    obtain rfl : r = 0 := by omega
    clear hr0 hr
    rw [hm] at hMay
    obtain ⟨C, sn, hCn, rfl, hF⟩ := facts h0
    obtain ⟨f, S, many, l0, hmany, hl0, hMF⟩ := majF h0 hCn hF
    have hck := chk_of_single h0
    obtain ⟨pc, kk, pr⟩ := p
    simp only at hCn hF hMF hmany hl0 hP hMay hg0 hW0 h1 ⊢
    subst hCn
    have hll : lot.length = C := hF.isLot.1
    have hlo : lot.length ≤ 1000000 := by have := hF.c10; omega
    obtain ⟨had, hhad⟩ : ∃ l, hadL 0 pr C = l := ⟨_, rfl⟩
    rw [hhad] at hF hMF
    obtain ⟨el, hel⟩ : ∃ l, (seatSt had lot sn).elected = l := ⟨_, rfl⟩
    obtain ⟨ts, hts⟩ : ∃ l, (seatSt had lot sn).ties = l := ⟨_, rfl⟩
    obtain ⟨nt, hnt⟩ : ∃ n, ts.length = n := ⟨_, rfl⟩
    have hO := hF.out
    rw [hel, hts] at hO
    simp only [hl0] at hO
    rw [hel] at hMF
    have hell : el.length = sn := by rw [← hel]; exact hF.el
    have hs1 := hF.s
    have hc10 := hF.c10
    have hC10 : C ≤ 10 := by omega
    have hsn10 : sn ≤ 10 := by omega
    have hrl : pr.length ≤ 1000000 := by have := (chkP_zero.1 hck).rows; simp only at this; omega
    have hRr : RRows Any W0 (.slice a m c) pr := by
      obtain ⟨_, _, e1, -, -, hR⟩ := hP
      simp only [Value.agg.injEq, Array.mk.injEq, List.cons.injEq, and_true, true_and] at e1
      rw [e1]; exact hR
    have hCt := fun (W : World) (hW : Below W0.heap.size W0 W) => sinPlurL Any Any _ _ ⟨(C : Int), kk, pr⟩ sn lot W _ (hP.same (.of_below hW)) (hL.same (.of_below hW)) hlo h0 hO hell rfl hnt
    have hMn := fun (W : World) (hW : Below W0.heap.size W0 W) => profMany Any (C : Int) kk pr a m c W (hP.same (.of_below hW)) hck
    have hOf := fun (k : Nat) (W : World) (x : Value) (hk : k < C) (hW : Below W0.heap.size W0 W) (hx : RInts Any W x [(k : Int)]) => (show Calls Tryz.prog 40 #[.slice a m c, x] W fun e w' => e = .returned (.int .i64 (f k)) ∧ Below W.heap.size W w' from by rw [← hMF.hc k hk]; exact r09Of Any Any _ x pr [(k : Int)] W (hRr.same (.of_below hW)) hx hrl)
    simp only [hmany] at hMn
    simp only [hll] at hMay hCt ⊢
    rw [hW0] at hMay
    have HM := Lib.hid hMay; have HCt := Lib.hid hCt; have HMn := Lib.hid hMn; have HOf := Lib.hid hOf; have HW0 := Lib.hid hW0; have G0 := Lib.hid hg0; have Hb0 := Lib.hid hb0; have HF := Lib.hid hF; have HMF := Lib.hid hMF; have Hell := Lib.hid hell; have Hl0 := Lib.hid hl0
    clear hMay hCt hMn hOf hW0 hg0 hb0 hF hMF hell hl0 hll hlo hrl hRr hP hL h h1 hv hm h0 hO hhad hel hts hnt hmany hck hc10
    have hsn0 : ((sn : Int) == 0) = false := by simp; omega
    have st0 := Lib.hid True.intro
    go_enter Tryz.func9, Tryz.ntmps9
    go_wp2_with (first
      | (have := st3; go_at_call 27; clear st3; refine (l11Had Any _ _ _ C w3 HV3.out rfl (by rw [List.length_map]; exact HF.out.hlen)).mono ?_; rintro e w4 ⟨ax, cx, rfl, kx, hb⟩; have q4 := bt q3 hb; have HX := Lib.hid kx; have GO := Lib.hid ((hb.block _ (size_of_box GO3.out)).trans GO3.out); obtain ⟨q1, qx, -⟩ := (VOutc.same (.of_below hb) HV3.out).parts; obtain ⟨yb, yoff, yd0, yd1, yd2, yd3, yd4, yd5, rfl, -, yl, y0, y1, y2, y3, y4, y5, hy⟩ := RSl.at6 qx 0 (by simp); obtain ⟨ys0, yn0, yt0, ys2, yn2, yt2, ys3, yn3, yt3, ys4, yn4, yt4, ys5, yn5, yt5, rfl, rfl, rfl, rfl, rfl, rfl, -, vy, -, -⟩ := hy.open; simp only [List.getElem_cons_zero] at y1 vy; simp only [Nat.zero_mul, Nat.add_zero] at y1 y2 y3; obtain ⟨ey, rfl, rfl⟩ := whole_cells vy; rw [ey] at y1 vy; have HLo := Lib.hid vy; have HEl := Lib.hid (q1 : RInts Any w4 (.slice b21 sn c21) el); clear hb kx vy hy qx q1 y0 y4 y5 ey this p0 p1 p2 pl o0 o1 o2 ol q3 GO3 HV3; obtain ⟨p0, p1, p2, pl⟩ := box3 G0.out q4; obtain ⟨o0, o1, o2, ol⟩ := box3 GO.out (Below.refl _ _); have st4 := Lib.hid True.intro)
      | (have := st2; go_at_call 39; clear st2; refine (HMn.out _ (bt q2 (below_new _ _))).mono ?_; rintro e w3 ⟨rfl, hb⟩; have hd := bt (below_new w2 _) hb; have q3 := bt q2 hd; have GO3 := Lib.hid (show w3.heap[w2.heap.size]? = some (.cells #[.slice b21 sn c21, .slice b22 1 c22, .slice b23 nt c23] 32 (0, 0)) from lay_at (w := w2) (os := [.cells #[.slice b21 sn c21, .slice b22 1 c22, .slice b23 nt c23] 32]) hb 0 rfl); have HV3 := Lib.hid (VOutc.same (.of_below hd) HV2.out); clear hb hd this p0 p1 p2 pl q2 HV2; obtain ⟨p0, p1, p2, pl⟩ := box3 G0.out q3; obtain ⟨o0, o1, o2, ol⟩ := box3 GO3.out (Below.refl _ _); have st3 := Lib.hid True.intro)
      | (have := st1; go_at_call 14; clear st1; refine (HCt.out _ q1).mono ?_; rintro e w2 ⟨b21, c21, b22, c22, b23, c23, rfl, kv, hb⟩; have q2 := bt q1 hb; have HV2 := Lib.hid kv; clear kv hb this p0 p1 p2 pl q1; obtain ⟨p0, p1, p2, pl⟩ := box3 G0.out q2; have st2 := Lib.hid True.intro)
      | (have := st0; go_at_call 25; clear st0; refine HM.out.mono ?_; rintro e w1 ⟨rfl, hb⟩; rw [← HW0.out] at hb; have q1 := hb; obtain ⟨p0, p1, p2, pl⟩ := box3 G0.out q1; clear hb this; have st1 := Lib.hid True.intro))
    have hB5 := below_new w4 (.cells #[.bool false, .slice ys2 (lim l0).length yt2, .slice ys3 1 yt3] 54)
    have hR0 : RtBox (w4.alloc (.cells #[.bool false, .slice ys2 (lim l0).length yt2, .slice ys3 1 yt3] 54)) w4.heap.size l0 ys2 yt2 ys3 yt3 := RtBox.lay HLo.out
    have HQ := Lib.hid q4
    have HB5 := Lib.hid hB5; have HR0 := Lib.hid hR0
    clear p0 p1 p2 pl o0 o1 o2 ol y1 y2 y3 st4 q4 hB5 hR0 hsn0
    go_loopw [14, 15, 16, 17] (fun i _ _ _ wr => ∃ (k : Nat) (c1 : Option Addr) (d1 : Nat) (c2 : Option Addr) (d2 : Nat), k ≤ C ∧ i = .int .i64 k ∧ Hid (RtBox wr w4.heap.size (S k) c1 d1 c2 d2) ∧ Hid (Below w4.heap.size w4 wr)) (fun i _ _ _ _ => C - (intOf i).toNat)
    case atStart => exact ⟨0, _, _, _, _, Nat.zero_le _, rfl, Lib.hid (by rw [HMF.out.s0]; exact HR0.out), HB5⟩
    case round =>
      clear HR0 HB5
      obtain ⟨k, s1, d1, s2, d2, hk, rfl, hR, hbr⟩ := hrel
      obtain ⟨p0, p1, p2, pl⟩ := box3 G0.out (bt HQ.out hbr.out)
      by_cases hlt : k < C
      · have hltI : (k : Int) < C := by omega
        have hwk : (Lit.int .i64 (k : Int)).wf = true := WalkArith.wf_i64 (by omega)
        have hOf := HOf.out k (wr.alloc (.cells #[.int .i64 (k : Int)] 3)) (.slice (some ⟨wr.heap.size, 0, none⟩) 1 1) hlt (bt (bt HQ.out hbr.out) (below_new _ _)) (litInts (xs := [(k : Int)]) (box_new wr (.cells #[.int .i64 (k : Int)] 3)) (by intro x hx; simp at hx; rw [hx]; exact hwk) (by simp))
        have HO1 := Lib.hid hOf
        clear hOf hwk
        have st5 := Lib.hid True.intro
        go_wp2_with (have := st5; go_at_call 40; clear st5; refine HO1.out.mono ?_; rintro e w6 ⟨rfl, hb⟩; have hb6 := Lib.hid (bt (below_new _ _) hb); clear hb this)
        clear p0 p1 p2 pl HO1
        have HB6 := Lib.hid (bt hbr.out hb6.out)
        have hR6 := Lib.hid (hR.out.below hb6.out)
        clear hR hbr hb6
        obtain ⟨o0, o1, o2, ol⟩ := box3 GO.out HB6.out
        have hS6 := Same.of_below (S := Any) HB6.out
        have hxl : (had.map whole).length = C := by rw [List.length_map]; exact HF.out.hlen
        obtain ⟨xb, xoff, xc, xd, xe, rfl, -, xl, x1, x2, x3, hx⟩ := RSl.at3 HX.out k (by omega)
        rw [whole_at, HMF.out.hf k hlt] at hx
        have vx := (VRt.of hx).same (w' := w6) hS6
        obtain ⟨k1, j1, k2, j2, rfl, rfl, rfl, -, -⟩ := hx.open
        have hfb := HMF.out.fb k hlt
        have hVx := fun (W : World) (hW : Below w6.heap.size w6 W) => vx.same (.of_below hW)
        have hel0 : 0 < el.length := by rw [Hell.out]; omega
        obtain ⟨eb, eoff, ec, eeq, -, ebl, ecl, ehd⟩ := RSl.at1 (HEl.out.same hS6) 0 hel0
        subst eeq
        obtain ⟨rfl, -⟩ := ehd.open
        have hwin := HMF.out.win k hlt
        obtain ⟨e0v, he0⟩ : ∃ z, el[0] = z := ⟨_, rfl⟩
        rw [he0] at ecl
        have hwin2 : many < 2 * f k → e0v = (k : Int) := fun h => by rw [← he0]; exact hwin h hel0
        simp only [Nat.add_zero] at ecl
        have hcl : ∀ W, Below w6.heap.size w6 W → (W.cell? ⟨xb, xoff + k * 3, none⟩ = some (.bool (whole (f k : Int)).neg) ∧ W.cell? ⟨xb, xoff + k * 3 + 1, none⟩ = some (.slice k1 (whole (f k : Int)).num.length j1) ∧ W.cell? ⟨xb, xoff + k * 3 + 2, none⟩ = some (.slice k2 (whole (f k : Int)).den.length j2) ∧ W.cell? ⟨w2.heap.size, 0, none⟩ = some (.slice (some ⟨eb, eoff, none⟩) sn c21) ∧ W.cell? ⟨eb, eoff, none⟩ = some (.int .i64 e0v)) := fun W hW => by
          have hs := Same.of_below (S := Any) hW
          exact ⟨hs.cell trivial (hS6.cell trivial x1), hs.cell trivial (hS6.cell trivial x2), hs.cell trivial (hS6.cell trivial x3), hs.cell trivial o0, hs.cell trivial ecl⟩
        have X1 := Lib.hid (hS6.cell trivial x1); have X2 := Lib.hid (hS6.cell trivial x2); have X3 := Lib.hid (hS6.cell trivial x3)
        have lxb : xb < w6.heap.size := by have := HB6.out.size; omega
        have HVx := Lib.hid hVx; have HCl := Lib.hid hcl
        clear hVx hcl vx hx x1 x2 x3 hS6 hxl hwin he0 ecl ehd ebl o0 o1 o2 ol xl
        have hsn1 : (0 : Int) < sn := by omega
        have hsn2 : 0 < sn := by omega
        have m1 : IntKind.i64.wrap (2 * (f k : Int)) = 2 * (f k : Int) := by rw [IntKind.wrap_i64]; omega
        go_upto_region 13 with fail
        go_cut [96] from 64 to 108 (fun s96 wc => s96 = .bool false ∧ Below w6.heap.size w6 wc)
        case first =>
          by_cases hmaj : many < 2 * f k
          · have hwk := hwin2 hmaj
            subst hwk
            have g1 : (2 * (f k : Int)) > many := by omega
            have g2 : decide ((2 * (f k : Int)) > many) = true := decide_eq_true g1
            have g3 : ((k : Int) != (k : Int)) = false := by simp
            clear hwin2
            go_region_held3 (fun w' => w'.cell? ⟨xb, xoff + k * 3, none⟩ = some (.bool (whole (f k : Int)).neg) ∧ w'.cell? ⟨xb, xoff + k * 3 + 1, none⟩ = some (.slice k1 (whole (f k : Int)).num.length j1) ∧ w'.cell? ⟨xb, xoff + k * 3 + 2, none⟩ = some (.slice k2 (whole (f k : Int)).den.length j2) ∧ w'.cell? ⟨w2.heap.size, 0, none⟩ = some (.slice (some ⟨eb, eoff, none⟩) sn c21) ∧ w'.cell? ⟨eb, eoff, none⟩ = some (.int .i64 (k : Int))) ((refine HCl.out _ ?_; first | (with_reducible assumption) | exact Below.drew (Below.refl _ _)))
              (first
                | (go_simp; go_at_call 29; refine (r4Whole (f k) _ (by omega)).mono ?_; rintro e w7 ⟨u1, m1, u2, m2, rfl, kk1, kk2, hb7⟩; have hbw7 : Below w6.heap.size w6 w7 := (Below.drew (Below.refl _ _)).trans hb7; have VW := Lib.hid (whole_of kk1 kk2); clear kk1 kk2)
                | (go_simp; go_at_call 28; refine (whole_same rfl (HVx.out w7 hbw7) VW.out).mono ?_; rintro e w8 ⟨rfl, hb8⟩; have hbw8 : Below w6.heap.size w6 w8 := bt hbw7 hb8))
            go_wp2_with fail
            go_meet
            exact ⟨rfl, hbw8⟩
          · have g1 : ¬ ((2 * (f k : Int)) > many) := by omega
            have g2 : decide ((2 * (f k : Int)) > many) = false := decide_eq_false g1
            have g3 : ¬ (many : Int) < 2 * (f k : Int) := by omega
            clear hwin2
            refine wp_region_held_drew (S := (fun w' => w'.cell? ⟨xb, xoff + k * 3, none⟩ = some (.bool (whole (f k : Int)).neg) ∧ w'.cell? ⟨xb, xoff + k * 3 + 1, none⟩ = some (.slice k1 (whole (f k : Int)).num.length j1) ∧ w'.cell? ⟨xb, xoff + k * 3 + 2, none⟩ = some (.slice k2 (whole (f k : Int)).den.length j2) ∧ w'.cell? ⟨w2.heap.size, 0, none⟩ = some (.slice (some ⟨eb, eoff, none⟩) sn c21) ∧ w'.cell? ⟨eb, eoff, none⟩ = some (.int .i64 e0v))) (by kernel_rfl) (HCl.out _ (Below.drew (Below.refl _ _))) (fun hHeld => ?_)
            refine wpAnyH_take (i := 0) (v := ?_) rfl (by kernel_rfl) (by kernel_rfl) (by kernel_rfl) (fun _ _ _ h => h) (Or.inl ⟨by kernel_rfl, ?_⟩) hHeld ?_
            rotate_left
            · intro w hSw; (try dsimp only at hSw); go_simp; try (with_reducible rfl)
            (try simp only [Act.put, List.setIfInBounds_toArray, List.set_cons_zero, List.set_cons_succ])
            refine wpAnyH_take (i := 1) (v := ?_) rfl (by kernel_rfl) (by kernel_rfl) (by kernel_rfl) (fun _ _ _ h => h) (Or.inl ⟨by kernel_rfl, ?_⟩) hHeld ?_
            rotate_left
            · intro w hSw; (try dsimp only at hSw); go_simp; try (with_reducible rfl)
            (try simp only [Act.put, List.setIfInBounds_toArray, List.set_cons_zero, List.set_cons_succ])
            refine wpAnyH_take (i := 2) (v := ?_) rfl (by kernel_rfl) (by kernel_rfl) (by kernel_rfl) (fun _ _ _ h => h) (Or.inl ⟨by kernel_rfl, ?_⟩) hHeld ?_
            rotate_left
            · intro w hSw; (try dsimp only at hSw); go_simp; try (with_reducible rfl)
            (try simp only [Act.put, List.setIfInBounds_toArray, List.set_cons_zero, List.set_cons_succ])
            refine wpAnyH_take (i := 3) (v := ?_) rfl (by kernel_rfl) (by kernel_rfl) (by kernel_rfl) (fun _ _ _ h => h) (Or.inl ⟨by kernel_rfl, ?_⟩) hHeld ?_
            rotate_left
            · intro w hSw; (try dsimp only at hSw); go_simp; try (with_reducible rfl)
            (try simp only [Act.put, List.setIfInBounds_toArray, List.set_cons_zero, List.set_cons_succ])
            refine wpAnyH_take (i := 4) (v := ?_) rfl (by kernel_rfl) (by kernel_rfl) (by kernel_rfl) (fun _ _ _ h => h) (Or.inl ⟨by kernel_rfl, ?_⟩) hHeld ?_
            rotate_left
            · intro w hSw; (try dsimp only at hSw); go_simp; try (with_reducible rfl)
            (try simp only [Act.put, List.setIfInBounds_toArray, List.set_cons_zero, List.set_cons_succ])
            refine wpAnyH_ready (rs := [5]) (by kernel_rfl) (by simp) ?_
            refine AllReadyH.cons rfl (fun K hK => ?_) AllReadyH.nil
            go_simp; go_at_call 29; refine (r4Whole (f k) _ (by omega)).mono ?_; rintro e w7 ⟨u1, m1, u2, m2, rfl, kk1, kk2, hb7⟩; have hbw7 : Below w6.heap.size w6 w7 := (Below.drew (Below.refl _ _)).trans hb7; have VW := Lib.hid (whole_of kk1 kk2); clear kk1 kk2
            refine hK.out _ _ (HCl.out _ hbw7) (fun hHeld => ?_)
            clear hK K
            (try simp only [Act.put, List.setIfInBounds_toArray, List.set_cons_zero, List.set_cons_succ])
            refine wpAnyH_ready (rs := [6]) (by kernel_rfl) (by simp) ?_
            refine AllReadyH.cons rfl (fun K hK => ?_) AllReadyH.nil
            go_simp; go_at_call 28; refine (whole_same rfl (HVx.out w7 hbw7) VW.out).mono ?_; rintro e w8 ⟨rfl, hb8⟩; have hbw8 : Below w6.heap.size w6 w8 := bt hbw7 hb8
            refine hK.out _ _ (HCl.out _ hbw8) (fun hHeld => ?_)
            clear hK K
            (try simp only [Act.put, List.setIfInBounds_toArray, List.set_cons_zero, List.set_cons_succ])
            refine wpAnyH_take (i := 7) (v := ?_) rfl (by kernel_rfl) (by kernel_rfl) (by kernel_rfl) (fun _ _ _ h => h) (Or.inl ⟨by kernel_rfl, ?_⟩) hHeld ?_
            rotate_left
            · intro w hSw; (try dsimp only at hSw); go_simp; try (with_reducible rfl)
            (try simp only [Act.put, List.setIfInBounds_toArray, List.set_cons_zero, List.set_cons_succ])
            refine wpAnyH_take (i := 8) (v := ?_) rfl (by kernel_rfl) (by kernel_rfl) (by kernel_rfl) (fun _ _ _ h => h) (Or.inl ⟨by kernel_rfl, ?_⟩) hHeld ?_
            rotate_left
            · intro w hSw; (try dsimp only at hSw); go_simp; try (with_reducible rfl)
            (try simp only [Act.put, List.setIfInBounds_toArray, List.set_cons_zero, List.set_cons_succ])
            refine wpAnyH_take (i := 9) (v := ?_) rfl (by kernel_rfl) (by kernel_rfl) (by kernel_rfl) (fun _ _ _ h => h) (Or.inl ⟨by kernel_rfl, ?_⟩) hHeld ?_
            rotate_left
            · intro w hSw; (try dsimp only at hSw); go_simp; try (with_reducible rfl)
            (try simp only [Act.put, List.setIfInBounds_toArray, List.set_cons_zero, List.set_cons_succ])
            refine wpAnyH_take (i := 10) (v := ?_) rfl (by kernel_rfl) (by kernel_rfl) (by kernel_rfl) (fun _ _ _ h => h) (Or.inl ⟨by kernel_rfl, ?_⟩) hHeld ?_
            rotate_left
            · intro w hSw; (try dsimp only at hSw); go_simp; try (with_reducible rfl)
            (try simp only [Act.put, List.setIfInBounds_toArray, List.set_cons_zero, List.set_cons_succ])
            refine wpAnyH_take (i := 11) (v := ?_) rfl (by kernel_rfl) (by kernel_rfl) (by kernel_rfl) (fun _ _ _ h => h) (Or.inl ⟨by kernel_rfl, ?_⟩) hHeld ?_
            rotate_left
            · intro w hSw; (try dsimp only at hSw); go_simp; try (with_reducible rfl)
            (try simp only [Act.put, List.setIfInBounds_toArray, List.set_cons_zero, List.set_cons_succ])
            refine wpAnyH_take (i := 12) (v := ?_) rfl (by kernel_rfl) (by kernel_rfl) (by kernel_rfl) (fun _ _ _ h => h) (Or.inl ⟨by kernel_rfl, ?_⟩) hHeld ?_
            rotate_left
            · intro w hSw; (try dsimp only at hSw); go_simp; try (with_reducible rfl)
            (try simp only [Act.put, List.setIfInBounds_toArray, List.set_cons_zero, List.set_cons_succ])
            refine wpAnyH_take (i := 13) (v := ?_) rfl (by kernel_rfl) (by kernel_rfl) (by kernel_rfl) (fun _ _ _ h => h) (Or.inl ⟨by kernel_rfl, ?_⟩) hHeld ?_
            rotate_left
            · intro w hSw; (try dsimp only at hSw); go_simp; try (with_reducible rfl)
            (try simp only [Act.put, List.setIfInBounds_toArray, List.set_cons_zero, List.set_cons_succ])
            refine wpAnyH_take (i := 14) (v := undef) rfl (by kernel_rfl) (by kernel_rfl) (by kernel_rfl) (fun _ _ _ h => h) (Or.inr ⟨by kernel_rfl, rfl⟩) hHeld ?_
            (try simp only [Act.put, List.setIfInBounds_toArray, List.set_cons_zero, List.set_cons_succ])
            refine wpAnyH_take (i := 15) (v := undef) rfl (by kernel_rfl) (by kernel_rfl) (by kernel_rfl) (fun _ _ _ h => h) (Or.inr ⟨by kernel_rfl, rfl⟩) hHeld ?_
            (try simp only [Act.put, List.setIfInBounds_toArray, List.set_cons_zero, List.set_cons_succ])
            refine wpAnyH_take (i := 16) (v := undef) rfl (by kernel_rfl) (by kernel_rfl) (by kernel_rfl) (fun _ _ _ h => h) (Or.inr ⟨by kernel_rfl, rfl⟩) hHeld ?_
            (try simp only [Act.put, List.setIfInBounds_toArray, List.set_cons_zero, List.set_cons_succ])
            refine wpAnyH_take (i := 17) (v := undef) rfl (by kernel_rfl) (by kernel_rfl) (by kernel_rfl) (fun _ _ _ h => h) (Or.inr ⟨by kernel_rfl, rfl⟩) hHeld ?_
            (try simp only [Act.put, List.setIfInBounds_toArray, List.set_cons_zero, List.set_cons_succ])
            refine wpAnyH_take (i := 18) (v := undef) rfl (by kernel_rfl) (by kernel_rfl) (by kernel_rfl) (fun _ _ _ h => h) (Or.inr ⟨by kernel_rfl, rfl⟩) hHeld ?_
            (try simp only [Act.put, List.setIfInBounds_toArray, List.set_cons_zero, List.set_cons_succ])
            refine wpAnyH_take (i := 19) (v := undef) rfl (by kernel_rfl) (by kernel_rfl) (by kernel_rfl) (fun _ _ _ h => h) (Or.inr ⟨by kernel_rfl, rfl⟩) hHeld ?_
            (try simp only [Act.put, List.setIfInBounds_toArray, List.set_cons_zero, List.set_cons_succ])
            refine wpAnyH_take (i := 20) (v := ?_) rfl (by kernel_rfl) (by kernel_rfl) (by kernel_rfl) (fun _ _ _ h => h) (Or.inl ⟨by kernel_rfl, ?_⟩) hHeld ?_
            rotate_left
            · intro w hSw; (try dsimp only at hSw); go_simp; try (with_reducible rfl)
            (try simp only [Act.put, List.setIfInBounds_toArray, List.set_cons_zero, List.set_cons_succ])
            refine wpAnyH_take (i := 21) (v := ?_) rfl (by kernel_rfl) (by kernel_rfl) (by kernel_rfl) (fun _ _ _ h => h) (Or.inl ⟨by kernel_rfl, ?_⟩) hHeld ?_
            rotate_left
            · intro w hSw; (try dsimp only at hSw); go_simp; try (with_reducible rfl)
            (try simp only [Act.put, List.setIfInBounds_toArray, List.set_cons_zero, List.set_cons_succ])
            refine wpAnyH_done (by kernel_rfl) ?_ _
            go_wp2_with fail
            go_meet
            exact ⟨rfl, hbw8⟩
        case rest =>
          obtain ⟨rfl, hbw8⟩ := hcut
          obtain ⟨w8, hw8⟩ : ∃ q, q = wc := ⟨_, rfl⟩
          rw [← hw8] at hbw8 ⊢
          clear hw8 hwin2 m1
          have HR8 := Lib.hid (hR6.out.below hbw8)
          have HB8 := Lib.hid (bt HB6.out hbw8)
          have X1 := (Same.of_below (S := Any) hbw8).cell trivial X1.out
          have X2 := (Same.of_below (S := Any) hbw8).cell trivial X2.out
          have X3 := (Same.of_below (S := Any) hbw8).cell trivial X3.out
          have lx8 : xb < w8.heap.size := by have := hbw8.size; omega
          have hsb := HMF.out.sb k hk
          have hAdd := fun (W : World) (hW : Below w8.heap.size w8 W) => ratAddW _ Any _ _ (S k) (f k) W (HR8.out.val.same (.of_below hW)) ((HVx.out w8 hbw8).same (.of_below hW)) (by omega) (by omega)
          obtain ⟨t0, t1, t2, tl⟩ := box3 HR8.out.box (Below.refl _ _)
          have HAdd := Lib.hid hAdd
          clear hAdd HCl HVx hbw8
          go_upto_region 15 with fail
          go_cut [16, 17] from 64 to 108 (fun s16 s17 wc => AddR w8 (S k + f k) s16 s17 wc)
          case first =>
            go_region_law (go_simp; go_at_call 41; refine (HAdd.out _ (by first | exact (Below.refl _ w8).drew | exact (Below.refl _ w8).drew.alloc (Nat.le_refl _) _ | exact ((Below.refl _ w8).alloc (Nat.le_refl _) _).drew)).mono ?_; rintro e w13 ⟨u1, m1, u2, m2, rfl, hv13, hb13⟩; (try (have hbyB := own_box (g := w8.heap.size) (cs := #[.bool false, .slice none 0 0, .slice none 0 0]) (e := 54) hb13 (by simp) (by first | exact box_new w8 _ | exact box_new w8.drew _); obtain ⟨gyB, hcyB, hfyB⟩ := hbyB)))
            all_goals
              go_wp2_with fail
              go_meet
              have hbw : Below w8.heap.size w8 w13 := by first | exact ((Below.refl _ w8).drew).trans hb13 | exact ((Below.refl _ w8).drew.alloc (Nat.le_refl _) _).trans (hb13.mono (by simp)) | exact (((Below.refl _ w8).alloc (Nat.le_refl _) _).drew).trans (hb13.mono (by simp))
              first
              | exact AddR.laid hv13 hbw
              | exact AddR.stored rfl gyB hv13 hbw (Nat.le_refl _)
          case rest =>
            obtain ⟨gA, v1, z1, v2, z2, rfl, rfl, hRA, hbc, hgw⟩ := hcut
            obtain ⟨a0, a1', a2', al⟩ := box3 hRA.box (Below.refl _ _)
            have hRc := HR8.out.below hbc
            have gx := hRc.box
            obtain ⟨-, bx0, fx⟩ := own_box (Below.refl _ wc) (size_of_box gx) gx
            have f0 := fx 0
            have f1 := fx 1
            have f2 := fx 2
            obtain ⟨c0, c1', c2', cl⟩ := box3 gx (Below.refl _ _)
            have hne : ¬ gA = w4.heap.size := by have := HB8.out.size; have := size_of_box HR8.out.box; omega
            have hne2 : ¬ w4.heap.size = gA := fun e => hne e.symm
            have HRA := Lib.hid hRA; have Hgx := Lib.hid gx; have Hbc := Lib.hid (bt HB8.out hbc)
            clear hRA gx hbc fx bx0 t0 t1 t2 tl X1 X2 X3 hRc HAdd
            go_wp2
            refine ⟨⟨k + 1, v1, z1, v2, z2, by omega, by go_num, Lib.hid ?_, Lib.hid ?_⟩, by simp [intOf]; omega⟩
            · rw [HMF.out.ss k hlt]; exact RtBox.store Hgx.out HRA.out.val
            · exact ((Hbc.out.setCell (p := ⟨w4.heap.size, 0, none⟩) (Nat.le_refl _) _).setCell (p := ⟨w4.heap.size, 1, none⟩) (Nat.le_refl _) _).setCell (p := ⟨w4.heap.size, 2, none⟩) (Nat.le_refl _) _
      · obtain rfl : C = k := by omega
        have hR2 := hR.out
        rw [HMF.out.sC] at hR2
        obtain ⟨t0, t1, t2, tl⟩ := box3 hR2.box (Below.refl _ _)
        have hcl : ∀ W, Below wr.heap.size wr W → (W.cell? ⟨w4.heap.size, 0, none⟩ = some (.bool false) ∧ W.cell? ⟨w4.heap.size, 1, none⟩ = some (.slice s1 (lim many).length d1) ∧ W.cell? ⟨w4.heap.size, 2, none⟩ = some (.slice s2 1 d2)) := fun W hW => by
          have hs := Same.of_below (S := Any) hW
          exact ⟨hs.cell trivial t0, hs.cell trivial t1, hs.cell trivial t2⟩
        have hVt := fun (W : World) (hW : Below wr.heap.size wr W) => hR2.val.same (.of_below hW)
        have hmb : many < 9223372036854775808 := by have := HMF.out.sb C (Nat.le_refl _); rw [HMF.out.sC] at this; omega
        have HCl := Lib.hid hcl; have HVt := Lib.hid hVt; have Hmb := Lib.hid hmb
        clear hcl hVt hmb hR2 hR t0 t1 t2 tl
        go_wp2
        clear p0 p1 p2 pl
        go_region_held3 (fun w' => w'.cell? ⟨w4.heap.size, 0, none⟩ = some (.bool false) ∧ w'.cell? ⟨w4.heap.size, 1, none⟩ = some (.slice s1 (lim many).length d1) ∧ w'.cell? ⟨w4.heap.size, 2, none⟩ = some (.slice s2 1 d2)) ((refine HCl.out _ ?_; first | (with_reducible assumption) | exact Below.drew (Below.refl _ _)))
          (first
            | (go_simp; go_at_call 29; refine (r4Whole many _ Hmb.out).mono ?_; rintro e w7 ⟨u1, m1, u2, m2, rfl, k1, k2, hb7⟩; have hbw7 : Below wr.heap.size wr w7 := (Below.drew (Below.refl _ _)).trans hb7; have VW := Lib.hid (whole_of k1 k2); clear k1 k2)
            | (go_simp; go_at_call 28; refine (whole_same rfl (HVt.out w7 hbw7) VW.out).mono ?_; rintro e w8 ⟨rfl, hb8⟩; have hbw8 : Below wr.heap.size wr w8 := bt hbw7 hb8)
            | (go_simp; go_at_call 12; refine (wakes11 _).mono ?_; rintro e w9 ⟨rfl, hb9⟩; have hbw9 : Below wr.heap.size wr w9 := bt hbw8 hb9))
        go_wp2_with fail
        go_ret
        exact ⟨rfl, bt Hb0.out (bt HQ.out (bt hbr.out hbw9))⟩
  · have hm' : mayS 0 p seats lot = false := by simpa using hm
    rw [hm', hW0] at hMay
    obtain ⟨cc, hcc⟩ : ∃ x, p.cands = x := ⟨_, rfl⟩
    obtain ⟨kk, hkk⟩ : ∃ x, p.kind = x := ⟨_, rfl⟩
    obtain ⟨nl, hnl⟩ : ∃ x, lot.length = x := ⟨_, rfl⟩
    rw [hcc, hkk, hnl] at hMay
    rw [hcc, hkk] at hW0
    rw [hcc, hkk, hnl]
    have HM := Lib.hid hMay; have Hb0 := Lib.hid hb0; have HW0 := Lib.hid hW0
    clear hMay hb0 hW0 hP hL h h1 hv hm hm' hg0 hcc hkk hnl
    go_enter Tryz.func9, Tryz.ntmps9
    go_wp2_with (first
      | (go_at_call 25; refine HM.out.mono ?_; rintro e w1 ⟨rfl, hb⟩; rw [← HW0.out] at hb; have hq := bt Hb0.out hb; clear hb)
      | (go_at_call 12; refine (wakes11 _).mono ?_; rintro e w2 ⟨rfl, hb⟩))
    go_ret
    exact ⟨rfl, bt hq hb⟩
end Go.Proofs.YtogngcbflhdadaaGreat

namespace Go.Proofs.YtogngcbflhdadaaGreat
open Go Go.RowKit Go.ChangeShapes Go.WideShapes Go.ChangeAt

set_option maxRecDepth 100000 in
theorem singleMajority_lifted (os : Os) (started : os.Started) (H : Type) (enc : TypeId × Value → H) :
    ReturnsInHanded {} Tryz.checked os 9 .any (Rows.singleMajoritySpec.pre6 enc Tryz.prog Tryz.f9 Rows.singleMajorityRow.domain false) (Rows.singleMajoritySpec.post enc Tryz.prog Tryz.f9 false true false false) := by
  refine returnsInHanded_of_change_sized (C := Tryz.checked) Tryz.own started (by kernel_rfl) Tryz.func9
    (ChangeSpec.witness6 (enc := enc) (C := Tryz.checked) false ⟨#[], #[.agg #[.int .i64 0, .int .u8 0, .slice none 0 0], .int .i64 0, .slice none 0 0], []⟩ 8 (by kernel_rfl) (by kernel_rfl) (by kernel_rfl) (by kernel_rfl)) ?_
  intro W base args ds gs before hval0 hW hcnd hsz0 _
  have hval : ∀ (j : Nat) t v, Tryz.f9.params[j]? = some t → args[j]? = some v → Value.okWide Tryz.prog W .any base t v := hval0
  have hsz : (DataW.weightsEach Tryz.prog (Tryz.f9.params.toList ++ Rows.singleMajoritySpec.plain.varTypes Tryz.prog) (ds ++ gs)).all (· ≤ reachBytes) = true := hsz0
  have hW' := hW
  obtain ⟨p, q, hA0, hV, rfl, hfz, hnd⟩ := hW
  have hA : DataW.TrodAll enc Tryz.prog W 0 (fun _ => true) true Tryz.f9.params.toList args.toList ds p := hA0
  rw [Tryz.params9] at hA hval hsz
  obtain ⟨v0, vs0, d0, ds0, p0, q0, hargs, rfl, rfl, h0, r0⟩ := trodAll_cons hA
  obtain ⟨v1, vs1, d1, ds1, p1, q1, rfl, rfl, rfl, h1, r1⟩ := trodAll_cons r0
  obtain ⟨v2, vs2, d2, ds2, p2, q2, rfl, rfl, rfl, h2, r2⟩ := trodAll_cons r1
  obtain ⟨rfl, rfl, rfl⟩ := trodAll_nil r2
  obtain rfl : args = #[v0, v1, v2] := by cases args; simp_all
  obtain ⟨rfl, rfl⟩ := trodVars_none hV
  have k0 := h0
  have k1 := h1
  have k2 := h2
  have lt0 : ∀ x ∈ p0, x.block < W.heap.size := by obtain ⟨m, hm⟩ := k0; exact DataW.trod_lt m _ _ _ hm
  have lt1 : ∀ x ∈ p1, x.block < W.heap.size := by obtain ⟨m, hm⟩ := k1; exact DataW.trod_lt m _ _ _ hm
  have lt2 : ∀ x ∈ p2, x.block < W.heap.size := by obtain ⟨m, hm⟩ := k2; exact DataW.trod_lt m _ _ _ hm
  obtain ⟨x0, y0⟩ := arg_prof (hval 0 _ v0 rfl rfl) h0 (weights_at hsz 0 rfl rfl)
  obtain ⟨x1, rfl, e1, e1', wf1⟩ := open_int Tryz.underlying3 (hval 1 _ v1 rfl rfl) h1
  obtain ⟨x2, y2⟩ := arg_ints (hval 2 _ v2 rfl rfl) h2 (weights_at hsz 2 rfl rfl)
  clear hA0 hval0
  refine (law_smaj v0 v2 x0 x1 x2 W y0 wf1 y2).mono fun e W' ⟨he, bel⟩ => ?_
  subst he
  exact ⟨_, rfl, _, _, _, [], _, [], hW', trodAll_mk1 (shut_bool Tryz.underlying4 _), (trodAll_cons_mk (Below.trod Tryz.laidOut (by kernel_rfl) (of_decide_eq_true (by kernel_rfl)) k0 bel lt0) (trodAll_cons_mk (Below.trod Tryz.laidOut (by kernel_rfl) (of_decide_eq_true (by kernel_rfl)) k1 bel lt1) (trodAll_cons_mk (Below.trod Tryz.laidOut (by kernel_rfl) (of_decide_eq_true (by kernel_rfl)) k2 bel lt2) trodAll_mk0))), rfl, bel.frame _, fun h => by cases h⟩

theorem singleMajority_named : Tryz.prog.funcNamed Rows.singleMajorityRow.func = some 9 := by kernel_rfl
theorem singleMajority_facts : joinedFacts Tryz.prog 9 Tryz.f9 Rows.singleMajoritySpec Rows.singleMajorityRow = true := by kernel_rfl
theorem singleMajority_inst : Tryz.f9.isInstance Tryz.prog Rows.singleMajorityRow.origin Rows.singleMajorityRow.targs := of_decide_eq_true (by kernel_rfl)
theorem singleMajority_wrap : Tryz.f9.isWrapper Tryz.prog Rows.singleMajorityRow.wrapper Rows.singleMajorityRow.mainSum := by
  unfold Func.isWrapper
  rw [if_neg (of_decide_eq_false (by kernel_rfl))]
  exact ⟨rfl, rfl⟩
theorem singleMajority_holds : Rows.SingleMajoritySaid :=
  OpenClaim.holds_of_wide 9 Tryz.f9 rfl rfl rfl rfl rfl rfl rfl ⟨rfl, rfl, rfl, rfl, rfl⟩ rfl rfl rfl rfl rfl singleMajority_named Tryz.func9 singleMajority_facts
    singleMajority_inst singleMajority_wrap
    (fun os started H enc _ => singleMajority_lifted os started H enc)
#print axioms singleMajority_holds
end Go.Proofs.YtogngcbflhdadaaGreat
