/- The law SingleBorda returns true whatever the input, and every argument reads behind the call as it read before. No condition. -/
import Derived.Test.YtogngcbflhdadaaGreatEGSam
import Derived.Test.YtogngcbflhdadaaGreatEGRul
import Derived.Test.YtogngcbflhdadaaGreatEGOne
import Derived.Test.YtogngcbflhdadaaGreatEGRat
import Derived.Test.YtogngcbflhdadaaGreatEGAdd
import Derived.Test.YtogngcbflhdadaaGreatEGNat
import Derived.Test.YtogngcbflhdadaaGreatRows
import Derived.Deep.MidRow
import Derived.Deep.RegionLaw
import Derived.Laws.ResultCell
import Derived.Deep.CutRange
import Derived.Deep.RegionHeld3
import Derived.WalkKit
import Derived.ProofKit
import Derived.OpenShut
import Derived.ShutString
import Derived.ChangeOld
import Derived.Below

/- The law SingleTells: its walk (printed by gentells11.py). -/
namespace Go.Proofs.YtogngcbflhdadaaGreat
open Go Go.RowKit Go.Shelf

theorem VProf.open {S : Nat → Prop} {w : World} {v : Value} {p : Prof} (h : VProf S w v p) : ∃ a m c, v = .agg #[.int .i64 p.cands, .int .u8 p.kind, .slice a m c] := by
  obtain ⟨a, c, rfl, -⟩ := h; exact ⟨a, _, c, rfl⟩
theorem GivesP.open {p : Prof} {w : World} {e : Ending} {w' : World} (h : GivesP p w e w') : ∃ a m c, e = .returned (.agg #[.int .i64 p.cands, .int .u8 p.kind, .slice a m c]) ∧ VProf Any w' (.agg #[.int .i64 p.cands, .int .u8 p.kind, .slice a m c]) p ∧ Below w.heap.size w w' := by
  obtain ⟨v, rfl, h1, h2⟩ := h
  obtain ⟨a, m, c, rfl⟩ := h1.open
  exact ⟨a, m, c, rfl, h1.mono fun _ _ => trivial, h2⟩
end Go.Proofs.YtogngcbflhdadaaGreat

/- The helpers of chapter 11's laws: kind, may, count, had. -/
namespace Go.Proofs.YtogngcbflhdadaaGreat
open Go Go.RowKit Go.Shelf

set_option maxHeartbeats 1000000 in
theorem l11Kind (rule : Nat) (hr : rule < 4) (w : World) : Calls Tryz.prog 56 #[.int .i64 rule] w fun e w' => e = .returned (.int .u8 (kindL rule)) ∧ Below w.heap.size w w' := by
  obtain rfl | rfl | rfl | rfl : rule = 0 ∨ rule = 1 ∨ rule = 2 ∨ rule = 3 := by omega
  · have i0 : ∀ w, (Instr.index 122 (.agg #[.int .u8 2, .int .u8 2, .int .u8 3, .int .u8 1]) (.int .i64 0)).run Tryz.prog w = .ok (.int .u8 2) w := fun _ => by kernel_rfl
    go_enter Tryz.func56, Tryz.ntmps56
    go_wp2
    go_ret
    exact ⟨rfl, Below.refl _ _⟩
  · have i0 : ∀ w, (Instr.index 122 (.agg #[.int .u8 2, .int .u8 2, .int .u8 3, .int .u8 1]) (.int .i64 1)).run Tryz.prog w = .ok (.int .u8 2) w := fun _ => by kernel_rfl
    go_enter Tryz.func56, Tryz.ntmps56
    go_wp2
    go_ret
    exact ⟨rfl, Below.refl _ _⟩
  · have i0 : ∀ w, (Instr.index 122 (.agg #[.int .u8 2, .int .u8 2, .int .u8 3, .int .u8 1]) (.int .i64 2)).run Tryz.prog w = .ok (.int .u8 3) w := fun _ => by kernel_rfl
    go_enter Tryz.func56, Tryz.ntmps56
    go_wp2
    go_ret
    exact ⟨rfl, Below.refl _ _⟩
  · have i0 : ∀ w, (Instr.index 122 (.agg #[.int .u8 2, .int .u8 2, .int .u8 3, .int .u8 1]) (.int .i64 3)).run Tryz.prog w = .ok (.int .u8 1) w := fun _ => by kernel_rfl
    go_enter Tryz.func56, Tryz.ntmps56
    go_wp2
    go_ret
    exact ⟨rfl, Below.refl _ _⟩
/-- Whether a law's count is valid. -/
def mayS (rule : Int) (p : Prof) (seats : Int) (lot : List Int) : Bool := decide (0 ≤ rule) && (decide (rule < 4) && decide (singleI rule.toNat p seats lot = 0))
theorem mayS_true {rule : Int} {p : Prof} {seats : Int} {lot : List Int} (h : mayS rule p seats lot = true) : ∃ r : Nat, rule = (r : Int) ∧ r < 4 ∧ singleI r p seats lot = 0 := by
  simp only [mayS, Bool.and_eq_true, decide_eq_true_eq] at h
  exact ⟨rule.toNat, by omega, by omega, h.2.2⟩
set_option maxHeartbeats 2000000 in
set_option maxRecDepth 100000 in
theorem l11May (S T : Nat → Prop) (rule : Int) (u v : Value) (p : Prof) (seats : Int) (lot : List Int) (w : World) (h : VProf S w u p) (hv : RInts T w v lot) :
    Calls Tryz.prog 25 #[.int .i64 rule, u, .int .i64 seats, v] w fun e w' => e = .returned (.bool (mayS rule p seats lot)) ∧ Below w.heap.size w w' := by
  have h1 := h
  obtain ⟨a, m, c, rfl⟩ := h.open
  obtain ⟨a2, m2, c2, rfl⟩ := RSl.slice hv
  obtain ⟨W0, hW0⟩ : ∃ W0, W0 = w.alloc (.cells #[.int .i64 p.cands, .int .u8 p.kind, .slice a m c] 24) := ⟨_, rfl⟩
  have hb0 : Below w.heap.size w W0 := by rw [hW0]; exact below_new w _
  have hg0 : W0.heap[w.heap.size]? = some (.cells #[.int .i64 p.cands, .int .u8 p.kind, .slice a m c] 24 (0, 0)) := by rw [hW0]; exact box_new w _
  obtain ⟨g0, g1, g2, -⟩ := box3 hg0 (Below.refl _ _)
  by_cases hr0 : 0 ≤ rule
  · by_cases hr4 : rule < 4
    · obtain ⟨r, rfl⟩ : ∃ r : Nat, rule = (r : Int) := ⟨rule.toNat, by omega⟩
      have hI : mayS (r : Int) p seats lot = ((singleI r p seats lot) == 0) := by
        rw [mayS, decide_eq_true hr0, decide_eq_true hr4, Bool.true_and, Bool.true_and, Int.toNat_natCast]
        rw [Bool.eq_iff_iff]; simp
      rw [hI]
      have hM := fun (q : Ex) => r11May S T _ _ p (kindL r) seats p.cands lot (ext W0 q) ((h1.same (.of_below hb0)).same (.of_below (below_ext W0 q))) ((hv.same (.of_below hb0)).same (.of_below (below_ext W0 q)))
      have hS : countI p (kindL r) seats p.cands lot = singleI r p seats lot := rfl
      simp only [hS] at hM
      have hK := fun (q : Ex) => l11Kind r (by omega) (ext W0 q)
      obtain ⟨cc, hcc⟩ : ∃ x, p.cands = x := ⟨_, rfl⟩
      obtain ⟨kk, hkk⟩ : ∃ x, p.kind = x := ⟨_, rfl⟩
      obtain ⟨I, hII⟩ : ∃ I, singleI r p seats lot = I := ⟨_, rfl⟩
      obtain ⟨K, hKK⟩ : ∃ I, kindL r = I := ⟨_, rfl⟩
      simp only [hcc, hkk, hII, hKK] at hW0 hM hK g0 g1 g2 ⊢
      have e0 := fun q => cell_ext (w := W0) g0 q
      have e1 := fun q => cell_ext (w := W0) g1 q
      have e2 := fun q => cell_ext (w := W0) g2 q
      have HM := Lib.hid hM; have HK := Lib.hid hK; have HW0 := Lib.hid hW0; have Hb0 := Lib.hid hb0
      have hge : (r : Int) ≥ 0 := by omega
      clear hM hK hW0 hb0 hg0 g0 g1 g2 h h1 hv hI hS hcc hkk hII hKK
      go_enter Tryz.func25, Tryz.ntmps25
      go_wp2
      rw [← HW0.out]
      clear HW0
      refine wp_region_ext (by kernel_rfl) (by kernel_rfl) ?_
      repeat (go_big_quiet_step ((first
        | (go_at_call 56; have hh := HK.out; exact calls_ext (v := .int .u8 K) (hh _))
        | (go_at_call 48; have hh := HM.out; exact calls_ext (v := .int .i64 I) (hh _)))))
      refine wpQuiet_nil ?_
      intro w2 hw'
      have hb12 : Below W0.heap.size W0 w2 := by obtain ⟨q, rfl⟩ := hw'; exact below_ext W0 q
      clear hw' e0 e1 e2 HM HK
      go_wp2
      go_ret
      exact ⟨rfl, bt Hb0.out hb12⟩
    · have hI : mayS rule p seats lot = false := by rw [mayS, decide_eq_false hr4, Bool.false_and, Bool.and_false]
      have d0 : decide (0 ≤ rule) = true := decide_eq_true hr0
      have d1 : decide (rule < 4) = false := decide_eq_false hr4
      rw [hI]
      have Hb0 := Lib.hid hb0; have HW0 := Lib.hid hW0
      clear hW0 hb0 hg0 g0 g1 g2 h h1 hv hI
      go_enter Tryz.func25, Tryz.ntmps25
      go_wp2
      rw [← HW0.out]
      clear HW0
      refine wp_region_ext (by kernel_rfl) (by kernel_rfl) ?_
      repeat (go_big_quiet_step (fail))
      refine wpQuiet_nil ?_
      intro w2 hw'
      have hb12 : Below W0.heap.size W0 w2 := by obtain ⟨q, rfl⟩ := hw'; exact below_ext W0 q
      clear hw'
      go_wp2
      go_ret
      exact ⟨rfl, bt Hb0.out hb12⟩
  · have hI : mayS rule p seats lot = false := by rw [mayS, decide_eq_false hr0, Bool.false_and]
    have d0 : decide (0 ≤ rule) = false := decide_eq_false hr0
    rw [hI]
    have Hb0 := Lib.hid hb0; have HW0 := Lib.hid hW0
    clear hW0 hb0 hg0 g0 g1 g2 h h1 hv hI
    go_enter Tryz.func25, Tryz.ntmps25
    go_wp2
    rw [← HW0.out]
    clear HW0
    refine wp_region_ext (by kernel_rfl) (by kernel_rfl) ?_
    repeat (go_big_quiet_step (fail))
    refine wpQuiet_nil ?_
    intro w2 hw'
    have hb12 : Below W0.heap.size W0 w2 := by obtain ⟨q, rfl⟩ := hw'; exact below_ext W0 q
    clear hw'
    go_wp2
    go_ret
    exact ⟨rfl, bt Hb0.out hb12⟩
end Go.Proofs.YtogngcbflhdadaaGreat

/- The helpers of chapter 11's laws: count and had (printed by genlsi.py). -/
namespace Go.Proofs.YtogngcbflhdadaaGreat
open Go Go.RowKit Go.Shelf

set_option maxHeartbeats 1000000 in
theorem l11Had (S : Nat → Prop) (u : Value) (o : Outc) (x : Rnd) (cands : Nat) (w : World) (h : VOutc S w u o) (ho : o.rounds = [x]) (hl : x.had.length = cands) :
    Calls Tryz.prog 27 #[u, .int .i64 cands] w fun e w' => ∃ a c, e = .returned (.tuple #[.slice a cands c, .bool true]) ∧ RRts S w' (.slice a cands c) x.had ∧ Below w.heap.size w w' := by
  obtain ⟨u1, u2, u3, rfl, h1, h2, h3⟩ := h
  obtain ⟨a1, m1, c1, rfl⟩ := RSl.slice h1
  obtain ⟨a2, c2, rfl, -, -⟩ := RSl.shape h2
  obtain ⟨a3, m3, c3, rfl⟩ := RSl.slice h3
  have hm2 : o.rounds.length = 1 := by rw [ho]; rfl
  rw [hm2] at h2 ⊢
  have hb0 := below_new w (.cells #[.slice a1 m1 c1, .slice a2 1 c2, .slice a3 m3 c3] 32)
  have hbx := box_new w (.cells #[.slice a1 m1 c1, .slice a2 1 c2, .slice a3 m3 c3] 32)
  obtain ⟨g0, g1, g2, gl⟩ := box3 hbx (Below.refl _ _)
  have h20 := h2.same (.of_below hb0)
  obtain ⟨W0, hW0⟩ : ∃ W0, W0 = w.alloc (.cells #[.slice a1 m1 c1, .slice a2 1 c2, .slice a3 m3 c3] 32) := ⟨_, rfl⟩
  rw [← hW0] at h20 hb0 g0 g1 g2
  obtain ⟨b, off, d0, d1, d2, d3, d4, d5, rfl, -, -, y0, y1, y2, y3, y4, y5, hy⟩ := RSl.at6 h20 0 (by rw [hm2]; omega)
  obtain ⟨s0, n0, t0, s2, n2, t2, s3, n3, t3, s4, n4, t4, s5, n5, t5, rfl, rfl, rfl, rfl, rfl, rfl, hy0, -, -, -⟩ := hy.open
  have hx : o.rounds[0]'(by rw [hm2]; omega) = x := by simp [ho]
  rw [hx] at hy0
  obtain rfl : n0 = cands := (RSl.len hy0).trans hl
  simp only [Nat.zero_mul, Nat.add_zero] at y0
  have hne : ((n0 : Int) != (n0 : Int)) = false := by simp
  have HW0 := Lib.hid hW0; have Hy0 := Lib.hid hy0; have Hb0 := Lib.hid hb0
  rw [hW0] at y0
  clear hW0 hy0 hb0 h1 h2 h3 h20 hy y1 y2 y3 y4 y5 hbx gl g0 g1 g2 hx hm2 ho
  go_enter Tryz.func27, Tryz.ntmps27
  go_wp2
  go_ret2
  exact ⟨_, _, rfl, by rw [← HW0.out]; exact Hy0.out, by rw [← HW0.out]; exact Hb0.out⟩
end Go.Proofs.YtogngcbflhdadaaGreat

/- Laws of the winners: their order, and one seat more. No program. -/
namespace Go.Proofs.YtogngcbflhdadaaGreat

/-- The seat that is given behind i others. -/
def winL (had lot : List Int) (i : Nat) : Int := firstL lot (bestL (gI had) (seatSt had lot i).left)
theorem seat_succ (had lot : List Int) (i : Nat) : (seatSt had lot (i + 1)).elected = (seatSt had lot i).elected ++ [winL had lot i] := rfl
theorem seat_take (had lot : List Int) {i : Nat} : ∀ n, i ≤ n → (seatSt had lot n).elected.take i = (seatSt had lot i).elected
  | 0, h => by
    obtain rfl : i = 0 := by omega
    rfl
  | n + 1, h => by
    by_cases e : i = n + 1
    · subst e
      exact List.take_of_length_le (by rw [seat_elected]; omega)
    · rw [seat_succ, List.take_append_of_le_length (by rw [seat_elected]; omega)]
      exact seat_take had lot n (by omega)
theorem seat_get (had lot : List Int) {i n : Nat} (h : i < n) (hi : i < (seatSt had lot n).elected.length) : (seatSt had lot n).elected[i] = winL had lot i := by
  have h1 := seat_take had lot (i := i + 1) n (by omega)
  have h2 : ((seatSt had lot n).elected.take (i + 1))[i]? = some (seatSt had lot n).elected[i] := by rw [List.getElem?_take_of_lt (by omega), List.getElem?_eq_getElem hi]
  rw [h1, seat_succ, List.getElem?_append_right (by rw [seat_elected]; omega), seat_elected, Nat.sub_self] at h2
  simpa using h2.symm
section
variable {had lot : List Int} {n : Nat}
end
end Go.Proofs.YtogngcbflhdadaaGreat

/- A valid count of chapter 11: what the law's count gives, in one contract; what is known of it. -/
namespace Go.Proofs.YtogngcbflhdadaaGreat
open Go Go.RowKit Go.Shelf

theorem whole_at {had : List Int} {an : Nat} (h : an < (had.map whole).length) : (had.map whole)[an] = whole (had.getD an 0) := by
  rw [List.getElem_map, List.getD_eq_getElem?_getD, List.getElem?_eq_getElem (by simpa using h)]; rfl
theorem VRt.of {S : Nat → Prop} {w : World} {c d e : Value} {x : Rt} (h : dRt S w [c, d, e] x) : VRt S w (.agg #[c, d, e]) x := by
  obtain ⟨vn, vd, h1, h2, h3⟩ := h
  simp only [List.cons.injEq, and_true] at h1
  obtain ⟨rfl, rfl, rfl⟩ := h1
  exact ⟨_, _, rfl, h2, h3⟩
theorem VOutc.parts {S : Nat → Prop} {w : World} {x1 x2 x3 : Value} {o : Outc} (h : VOutc S w (.agg #[x1, x2, x3]) o) : RInts S w x1 o.elected ∧ RRnds S w x2 o.rounds ∧ RTies S w x3 o.ties := by
  obtain ⟨y1, y2, y3, ye, q1, q2, q3⟩ := h
  simp only [Value.agg.injEq, Array.mk.injEq, List.cons.injEq, and_true] at ye
  obtain ⟨rfl, rfl, rfl⟩ := ye
  exact ⟨q1, q2, q3⟩
/-- What is known of a valid count. -/
structure Facts (r : Nat) (p : Prof) (sn : Nat) (lot : List Int) (C : Nat) (had : List Int) : Prop where
  hlen : had.length = C
  c10 : 1 ≤ C ∧ C ≤ 10
  s : 1 ≤ sn ∧ sn ≤ C
  isLot : LotOf lot C
  pts : ∀ x : Nat, 0 ≤ had.getD x 0 ∧ had.getD x 0 ≤ 10000000
  blost : 0 ≤ lostS r p.rows ∧ lostS r p.rows ≤ 1000000
  out : singleV r p sn lot = ⟨(seatSt had lot sn).elected, [⟨had.map whole, whole (lostS r p.rows), (seatSt had lot sn).elected, []⟩], (seatSt had lot sn).ties⟩
  el : (seatSt had lot sn).elected.length = sn
  nodup : (seatSt had lot sn).elected.Nodup
  range : ∀ x ∈ (seatSt had lot sn).elected, 0 ≤ x ∧ x < C
  ties : (seatSt had lot sn).ties.length ≤ sn
theorem facts {r : Nat} {p : Prof} {seats : Int} {lot : List Int} (h0 : singleI r p seats lot = 0) : ∃ C sn : Nat, p.cands = (C : Int) ∧ seats = (sn : Int) ∧ Facts r p sn lot C (hadL r p.rows C) := by
  obtain ⟨ck, ⟨cc1, cc2⟩, ⟨cs1, cs2⟩, cl, cm, cf, cr, csum⟩ := counted h0
  obtain ⟨C, hCn⟩ : ∃ C : Nat, p.cands = (C : Int) := ⟨p.cands.toNat, by omega⟩
  obtain ⟨sn, hsn⟩ : ∃ s : Nat, seats = (s : Int) := ⟨seats.toNat, by omega⟩
  subst hsn
  rw [hCn, Int.toNat_natCast] at cl
  have hl : (hadL r p.rows C).length = C := by rw [hadL_fl, fl_length]
  have hcl : LotOf lot (hadL r p.rows C).length := by rw [hl]; exact cl
  obtain ⟨f1, f2, -⟩ := seat_facts hcl sn (by rw [hl]; omega)
  rw [hl] at f2
  refine ⟨C, sn, hCn, rfl, hl, by omega, by omega, cl, fun x => ?_, ?_, ?_, seat_elected _ _ _, f1, f2, seat_ties _ _ _⟩
  · by_cases hx : x < (hadL r p.rows C).length
    · have h3 := hadF_bound (rule := r) (rows := p.rows) (c := C) (x := x) (m := 10) (by omega) fun rr hr => by
        have h1 := cm rr hr
        have h2 := give_bound (x := x) ck (by have := cf rr hr; rw [hCn] at this; exact this) (by omega)
        exact ⟨by omega, h2.1, h2.2⟩
      have e : (hadL r p.rows C).getD x 0 = hadF r p.rows C x := by
        rw [List.getD_eq_getElem?_getD, List.getElem?_eq_getElem hx]
        simp only [hadL_fl, Option.getD_some]
        rw [fl_get]
      rw [e]; omega
    · rw [List.getD_eq_getElem?_getD, List.getElem?_eq_none (by omega)]; simp
  · have := lostS_bound (rule := r) (rows := p.rows) fun rr hr => by have := cm rr hr; omega
    omega
  · rw [singleV, h0, if_pos rfl, hCn]; simp only [Int.toNat_natCast, oneO]
end Go.Proofs.YtogngcbflhdadaaGreat

/- Points and lost ballots of a profile with more ballots, and of a sum of two profiles. No program. -/
namespace Go.Proofs.YtogngcbflhdadaaGreat

theorem hadF_cons (rule : Nat) (r : Row) (rs : List Row) (c x : Nat) : hadF rule (r :: rs) c x = (if lostL rule r.marks then 0 else giveL rule r.marks c x * r.many) + hadF rule rs c x := by
  rw [hadF, List.filter_cons]
  cases h : lostL rule r.marks <;> simp [hadF]
theorem chk_of_single {r : Nat} {p : Prof} {seats : Int} {lot : List Int} (h : singleI r p seats lot = 0) : chkP p = 0 := by
  unfold singleI countI at h
  split at h
  · omega
  · rename_i h1
    simp only [not_or, Decidable.not_not] at h1
    exact h1.1
end Go.Proofs.YtogngcbflhdadaaGreat

/- Laws of the recorded ties. No program. -/
namespace Go.Proofs.YtogngcbflhdadaaGreat

/-- Those who share the seat that is given behind j others. -/
def amL (had lot : List Int) (j : Nat) : List Int := bestL (gI had) (seatSt had lot j).left
theorem am_mem {had lot : List Int} {j : Nat} {x : Int} (h : x ∈ amL had lot j) : x ∈ (seatSt had lot j).left ∧ 0 ≤ x ∧ x < had.length ∧ ∀ y ∈ (seatSt had lot j).left, gI had y ≤ gI had x := by
  obtain ⟨h1, h2⟩ := bestL_mem.1 h
  have h3 := h1
  rw [seat_left] at h3
  have h4 := mem_rngI.1 (List.mem_filter.1 h3).1
  exact ⟨h1, h4.1, h4.2, h2⟩
/-- What a recorded tie is. -/
structure TieAt (had lot : List Int) (n : Nat) (t : Tie) (j : Nat) : Prop where
  lt : j < n
  two : 2 ≤ t.among.length
  first : firstL lot t.among = t.chosen
  win : t.chosen = winL had lot j
  cand : 0 ≤ t.chosen ∧ t.chosen < had.length
  range : ∀ k (h : k < t.among.length), 0 ≤ t.among[k] ∧ t.among[k] < had.length
  asc : ∀ k (h : k < t.among.length), 0 < k → t.among[k - 1] < t.among[k]
  pts : ∀ k (h : k < t.among.length), gI had t.among[k] = gI had t.chosen
end Go.Proofs.YtogngcbflhdadaaGreat

/- Plurality: points and lost ballots are all ballots; more than half wins. No program. -/
namespace Go.Proofs.YtogngcbflhdadaaGreat

theorem sum_map_add (f g : Nat → Int) : ∀ l : List Nat, (l.map fun x => f x + g x).sum = (l.map f).sum + (l.map g).sum
  | [] => rfl
  | a :: l => by
    simp only [List.map_cons, List.sum_cons, sum_map_add f g l]
    omega
theorem sum_range_succ (f : Nat → Int) (k : Nat) : ((List.range (k + 1)).map f).sum = ((List.range k).map f).sum + f k := by
  rw [List.range_succ, List.map_append, List.sum_append]
  simp
end Go.Proofs.YtogngcbflhdadaaGreat

/- The pairwise matrix, row by row and pair by pair; its rows' sums are Borda's points. No program. -/
namespace Go.Proofs.YtogngcbflhdadaaGreat

/-- How many ballots prefer x to y. -/
def pairF (rows : List Row) (x y : Nat) : Int := (rows.map fun r => if prefB r.marks (x : Int) (y : Int) then r.many else 0).sum
theorem pairF_take {rows : List Row} {k : Nat} (hk : k < rows.length) (x y : Nat) : pairF (rows.take (k + 1)) x y = pairF (rows.take k) x y + if prefB rows[k].marks (x : Int) (y : Int) then rows[k].many else 0 := by
  rw [List.take_succ_eq_append_getElem hk, pairF, List.map_append, List.sum_append, pairF]
  simp
/-- The matrix, laid flat: places beyond the candidates hold 0. -/
def matF (rows : List Row) (C : Nat) : Nat → Int := fun z => if z / 10 < C ∧ z % 10 < C then pairF rows (z / 10) (z % 10) else 0
theorem mat_nil (C : Nat) : fl 100 (matF [] C) = List.replicate 100 0 := by
  rw [← fl_zero]
  apply fl_congr
  intro z _
  rw [matF]
  split <;> rfl
/-- Rows before x are done; of row x the places before y. -/
def matP (h : Nat → Int) (m : List Int) (many : Int) (C x y : Nat) : Nat → Int := fun z => h z + if (z / 10 < C ∧ z % 10 < C) ∧ (z / 10 < x ∨ (z / 10 = x ∧ z % 10 < y)) ∧ prefB m ((z / 10 : Nat) : Int) ((z % 10 : Nat) : Int) = true then many else 0
theorem matP_start (h : Nat → Int) (m : List Int) (many : Int) (C : Nat) : fl 100 (matP h m many C 0 0) = fl 100 h := by
  apply fl_congr
  intro z _
  rw [matP, if_neg]
  · omega
  · rintro ⟨-, h1, -⟩; omega
theorem matP_get {h : Nat → Int} {m : List Int} {many : Int} {C x y : Nat} (hy : y < 10) (hx : x * 10 + y < (fl 100 (matP h m many C x y)).length) : (fl 100 (matP h m many C x y))[x * 10 + y] = h (x * 10 + y) := by
  rw [fl_get, matP, if_neg]
  · omega
  · rintro ⟨-, h1, -⟩; omega
theorem matP_step {h : Nat → Int} {m : List Int} {many : Int} {C x y : Nat} (hx : x < C) (hy : y < C) (hC : C ≤ 10) (hp : prefB m (x : Int) (y : Int) = true) :
    fl 100 (matP h m many C x (y + 1)) = (fl 100 (matP h m many C x y)).set (x * 10 + y) (h (x * 10 + y) + many) := by
  rw [fl_set]
  apply fl_congr
  intro z _
  simp only [matP]
  by_cases h1 : z = x * 10 + y
  · have e1 : z / 10 = x := by omega
    have e2 : z % 10 = y := by omega
    rw [if_pos h1, e1, e2, if_pos ⟨⟨hx, hy⟩, .inr ⟨rfl, by omega⟩, hp⟩, h1]
  · rw [if_neg h1]
    have e : ((z / 10 < C ∧ z % 10 < C) ∧ (z / 10 < x ∨ (z / 10 = x ∧ z % 10 < y + 1)) ∧ prefB m ((z / 10 : Nat) : Int) ((z % 10 : Nat) : Int) = true) ↔ ((z / 10 < C ∧ z % 10 < C) ∧ (z / 10 < x ∨ (z / 10 = x ∧ z % 10 < y)) ∧ prefB m ((z / 10 : Nat) : Int) ((z % 10 : Nat) : Int) = true) := by
      constructor
      · rintro ⟨a, b, c⟩; exact ⟨a, by omega, c⟩
      · rintro ⟨a, b, c⟩; exact ⟨a, by omega, c⟩
    simp only [e]
theorem matP_skip {h : Nat → Int} {m : List Int} {many : Int} {C x y : Nat} (hp : prefB m (x : Int) (y : Int) = false) : fl 100 (matP h m many C x (y + 1)) = fl 100 (matP h m many C x y) := by
  apply fl_congr
  intro z _
  simp only [matP]
  have e : ((z / 10 < C ∧ z % 10 < C) ∧ (z / 10 < x ∨ (z / 10 = x ∧ z % 10 < y + 1)) ∧ prefB m ((z / 10 : Nat) : Int) ((z % 10 : Nat) : Int) = true) ↔ ((z / 10 < C ∧ z % 10 < C) ∧ (z / 10 < x ∨ (z / 10 = x ∧ z % 10 < y)) ∧ prefB m ((z / 10 : Nat) : Int) ((z % 10 : Nat) : Int) = true) := by
    constructor
    · rintro ⟨a, b, c⟩
      refine ⟨a, ?_, c⟩
      rcases b with b | ⟨b1, b2⟩
      · exact .inl b
      · by_cases h2 : z % 10 = y
        · rw [b1, h2, hp] at c; cases c
        · exact .inr ⟨b1, by omega⟩
    · rintro ⟨a, b, c⟩; exact ⟨a, by omega, c⟩
  simp only [e]
theorem matP_next {h : Nat → Int} {m : List Int} {many : Int} {C x : Nat} : fl 100 (matP h m many C x C) = fl 100 (matP h m many C (x + 1) 0) := by
  apply fl_congr
  intro z _
  simp only [matP]
  have e : ((z / 10 < C ∧ z % 10 < C) ∧ (z / 10 < x ∨ (z / 10 = x ∧ z % 10 < C)) ∧ prefB m ((z / 10 : Nat) : Int) ((z % 10 : Nat) : Int) = true) ↔ ((z / 10 < C ∧ z % 10 < C) ∧ (z / 10 < x + 1 ∨ (z / 10 = x + 1 ∧ z % 10 < 0)) ∧ prefB m ((z / 10 : Nat) : Int) ((z % 10 : Nat) : Int) = true) := by
    constructor
    · rintro ⟨a, b, c⟩; exact ⟨a, by omega, c⟩
    · rintro ⟨a, b, c⟩; exact ⟨a, by omega, c⟩
  simp only [e]
theorem matP_end {rows : List Row} {C k : Nat} (hk : k < rows.length) : fl 100 (matP (matF (rows.take k) C) rows[k].marks rows[k].many C C 0) = fl 100 (matF (rows.take (k + 1)) C) := by
  apply fl_congr
  intro z _
  simp only [matP, matF]
  by_cases h1 : z / 10 < C ∧ z % 10 < C
  · rw [if_pos h1, if_pos h1, pairF_take hk]
    by_cases h2 : prefB rows[k].marks ((z / 10 : Nat) : Int) ((z % 10 : Nat) : Int) = true
    · rw [if_pos ⟨h1, .inl h1.1, h2⟩, if_pos h2]
    · rw [if_neg (fun h => h2 h.2.2), if_neg h2]
  · rw [if_neg h1, if_neg h1, if_neg (fun h => h1 h.1)]; omega
theorem pairF_bound {rows : List Row} (h : ∀ r ∈ rows, 0 ≤ r.many) (x y : Nat) : 0 ≤ pairF rows x y ∧ pairF rows x y ≤ sumR rows := by
  induction rows with
  | nil => simp [pairF, sumR]
  | cons r rs ih =>
    obtain ⟨h1, h2⟩ := ih fun s hs => h s (List.mem_cons_of_mem _ hs)
    have h3 := h r (by simp)
    have e1 : pairF (r :: rs) x y = (if prefB r.marks (x : Int) (y : Int) then r.many else 0) + pairF rs x y := by simp [pairF]
    have e2 : sumR (r :: rs) = r.many + sumR rs := by simp [sumR]
    rw [e1, e2]
    split <;> omega
theorem matF_bound {rows : List Row} (h : ∀ r ∈ rows, 0 ≤ r.many) (C z : Nat) : 0 ≤ matF rows C z ∧ matF rows C z ≤ sumR rows := by
  have h1 := pairF_bound h (z / 10) (z % 10)
  rw [matF]
  split <;> omega
/-- The sum of the first j places of a row of the matrix. -/
def rowTo (rows : List Row) (x j : Nat) : Int := ((List.range j).map fun y => pairF rows x y).sum
theorem rowTo_zero (rows : List Row) (x : Nat) : rowTo rows x 0 = 0 := rfl
theorem rowTo_succ (rows : List Row) (x j : Nat) : rowTo rows x (j + 1) = rowTo rows x j + pairF rows x j := by rw [rowTo, sum_range_succ, rowTo]
theorem cntP_sum (m : List Int) (x : Nat) (many : Int) : ∀ j, ((List.range j).map fun y : Nat => if prefB m (x : Int) (y : Int) then many else 0).sum = cntP m (x : Int) j * many
  | 0 => by simp [cntP_zero]
  | j + 1 => by
    rw [sum_range_succ, cntP_sum m x many j, cntP_succ, Int.add_mul]
    split <;> omega
/-- The sum of a row is Borda's points. -/
theorem rowTo_all {C x : Nat} : ∀ {rows : List Row}, (∀ r ∈ rows, r.marks.Nodup ∧ ∀ m ∈ r.marks, 0 ≤ m ∧ m < C) → rowTo rows x C = hadF 3 rows C x
  | [], _ => by
    have : (fun y => pairF [] x y) = fun _ : Nat => (0 : Int) := rfl
    rw [rowTo, this, hadF_nil]
    generalize List.range C = l
    induction l with
    | nil => rfl
    | cons a l ih => simpa using ih
  | r :: rs, h => by
    have ih := rowTo_all (x := x) (rows := rs) fun s hs => h s (List.mem_cons_of_mem _ hs)
    obtain ⟨h1, h2⟩ := h r (by simp)
    have e : (fun y : Nat => pairF (r :: rs) x y) = fun y : Nat => (if prefB r.marks (x : Int) (y : Int) then r.many else 0) + pairF rs x y := funext fun y => by simp [pairF]
    rw [rowTo, e, sum_map_add, cntP_sum, hadF_cons, cntP_all h1 h2]
    have e2 : ((List.range C).map fun y => pairF rs x y).sum = rowTo rs x C := rfl
    rw [e2, ih]
    have e3 : lostL 3 r.marks = false := rfl
    rw [e3]
    simp
/-- Whoever is ranked first on every ballot is elected first. -/
theorem first_wins {C : Nat} {rows : List Row} {lot : List Int} {n : Nat} (hl : LotOf lot C) (hm : ∀ r ∈ rows, r.marks.Nodup ∧ ∀ m ∈ r.marks, 0 ≤ m ∧ m < C) (hr : ∀ r ∈ rows, 0 < r.many) (hne : rows ≠ []) {c : Nat} (hc : c < C) (hf : ∀ r ∈ rows, ∃ t, r.marks = (c : Int) :: t) (hn : 0 < n) (h0 : 0 < (seatSt (hadL 3 rows C) lot n).elected.length) :
    (seatSt (hadL 3 rows C) lot n).elected[0] = (c : Int) := by
  rw [seat_get _ _ hn h0]
  have hlen : (hadL 3 rows C).length = C := hadL_length 3 rows C
  have hg : ∀ x : Nat, x < C → gI (hadL 3 rows C) (x : Int) = hadF 3 rows C x := fun x hx => by
    rw [gI_at (by rw [hlen]; exact hx)]
    simp only [hadL_fl]
    rw [fl_get]
  have hless : ∀ y : Nat, y < C → y ≠ c → hadF 3 rows C y < hadF 3 rows C c := fun y hy hyc => by
    have hstep : ∀ r ∈ rows, giveL 3 r.marks C y + 1 ≤ giveL 3 r.marks C c := fun r hr' => by
      obtain ⟨t, ht⟩ := hf r hr'
      have e1 : giveL 3 r.marks C c = (C : Int) - 1 := by
        show (if r.marks.contains (c : Int) then (C : Int) - 1 - (r.marks.idxOf (c : Int) : Nat) else 0) = _
        rw [ht, if_pos (by simp), List.idxOf_cons_self]; simp
      have e2 : giveL 3 r.marks C y ≤ (C : Int) - 2 := by
        show (if r.marks.contains (y : Int) then (C : Int) - 1 - (r.marks.idxOf (y : Int) : Nat) else 0) ≤ _
        split
        · rw [ht, List.idxOf_cons, show ((c : Int) == (y : Int)) = false by simp; omega]
          simp only [cond_false]
          omega
        · omega
      omega
    clear hf
    induction rows with
    | nil => exact absurd rfl hne
    | cons r rs ih =>
      rw [hadF_cons, hadF_cons]
      have e3 : lostL 3 r.marks = false := rfl
      rw [e3, if_neg (by simp), if_neg (by simp)]
      have h1 := hstep r (by simp)
      have h2 := hr r (by simp)
      have h3 : giveL 3 r.marks C y * r.many + 1 ≤ giveL 3 r.marks C c * r.many := by
        have := Int.mul_le_mul_of_nonneg_right h1 (Int.le_of_lt h2)
        rw [Int.add_mul] at this
        omega
      by_cases he : rs = []
      · subst he
        rw [hadF_nil, hadF_nil]; omega
      · have hlen' : (hadL 3 rs C).length = C := hadL_length 3 rs C
        have := ih (fun s hs => hm s (List.mem_cons_of_mem _ hs)) (fun s hs => hr s (List.mem_cons_of_mem _ hs)) he (by rw [seat_elected]; exact hn) hlen' (fun x hx => by
          rw [gI_at (by rw [hlen']; exact hx)]
          simp only [hadL_fl]
          rw [fl_get]) (fun s hs => hstep s (List.mem_cons_of_mem _ hs))
        omega
  have hl' : LotOf lot (hadL 3 rows C).length := by rw [hlen]; exact hl
  have hcl : (c : Int) ∈ (seatSt (hadL 3 rows C) lot 0).left := mem_rngI.2 (by rw [hlen]; omega)
  have hne2 : (seatSt (hadL 3 rows C) lot 0).left ≠ [] := fun e => by rw [e] at hcl; cases hcl
  obtain ⟨w1, w2⟩ := seat_win hl' hne2
  have w3 : winL (hadL 3 rows C) lot 0 ∈ amL (hadL 3 rows C) lot 0 := w1
  obtain ⟨-, r1, r2, r3⟩ := am_mem w3
  have h3 := r3 _ hcl
  rw [hlen] at r2
  obtain ⟨y, hy⟩ : ∃ y : Nat, winL (hadL 3 rows C) lot 0 = (y : Int) := ⟨(winL (hadL 3 rows C) lot 0).toNat, by omega⟩
  rw [hy] at r2 h3 ⊢
  rw [hg c hc, hg y (by omega)] at h3
  by_cases e : y = c
  · rw [e]
  · have := hless y (by omega) e
    omega
end Go.Proofs.YtogngcbflhdadaaGreat

/- The contract of the program's Prefers, at rankings. -/
namespace Go.Proofs.YtogngcbflhdadaaGreat
open Go Go.RowKit Go.Shelf

theorem idxFrom_out : ∀ {l : List Int} {x : Int} {i : Nat}, x ∉ l → Lib.idxFrom l x i = -1
  | [], _, _, _ => rfl
  | a :: l, x, i, h => by
    have h1 : a ≠ x := fun e => h (e ▸ List.mem_cons_self)
    have h2 : x ∉ l := fun e => h (List.mem_cons_of_mem _ e)
    simp only [Lib.idxFrom, if_neg h1, idxFrom_out h2]
theorem idxOf_all (l : List Int) (x : Int) : Lib.idxOf l x = idxB (fun m => decide (m = x)) l := by
  by_cases h : x ∈ l
  · rw [idxOf_eq h, idxB_idx h]
  · rw [idxB_out h]; exact idxFrom_out h
theorem slIndexB (S : Nat → Prop) (v : Value) (l : List Int) (x : Int) (w : World) (h : RInts S w v l) :
    Calls Tryz.prog 92 #[v, .int .i64 x] w fun e w' => e = .returned (.int .i64 (idxB (fun m => decide (m = x)) l)) ∧ w = w' :=
  (slIndex S v l x w h).mono fun _ _ ⟨h1, h2⟩ => ⟨by rw [h1, idxOf_all], h2.symm⟩
set_option maxHeartbeats 800000 in
set_option maxRecDepth 100000 in
theorem balPrefers (S : Nat → Prop) (v : Value) (marks : List Int) (x y : Nat) (w : World) (h : VBlt S w v ⟨1, marks⟩) :
    Calls Tryz.prog 58 #[v, .int .i64 x, .int .i64 y] w fun e w' => e = .returned (.bool (prefB marks x y)) ∧ Below w.heap.size w w' := by
  have h0 := h
  obtain ⟨cc, d, rfl, hB⟩ := h
  obtain ⟨a, cap, rfl, rfl, hl, -, -, hI⟩ := hB.open
  simp only at *
  obtain ⟨W1, hW1⟩ : ∃ W1, W1 = w.alloc (.cells #[.int .u8 1, .slice a marks.length cap] 58) := ⟨_, rfl⟩
  have hb0 : Below w.heap.size w W1 := by rw [hW1]; exact below_new w _
  have hbx : W1.heap[w.heap.size]? = some (.cells #[.int .u8 1, .slice a marks.length cap] 58 (0, 0)) := by rw [hW1]; exact box_new w _
  have hI1 := hI.same (.of_below hb0)
  have hP := fun (n : Int) p => slIndexB S _ marks n (ext W1 p) (hI1.same (.of_below (below_ext W1 p)))
  obtain ⟨I, hIe⟩ : ∃ I, idxB (fun m => decide (m = (x : Int))) marks = I := ⟨_, rfl⟩
  obtain ⟨J, hJe⟩ : ∃ J, idxB (fun m => decide (m = (y : Int))) marks = J := ⟨_, rfl⟩
  have hPx := hP x
  have hPy := hP y
  rw [hIe] at hPx
  rw [hJe] at hPy
  have hpb : prefB marks x y = (decide (0 ≤ I) && (decide (J < 0) || decide (I < J))) := by rw [prefB, hIe, hJe]
  rw [hpb]
  obtain ⟨-, bc, -⟩ := own_box (Below.refl _ W1) (size_of_box hbx) hbx
  have c0 : W1.cell? ⟨w.heap.size, 0, none⟩ = some (.int .u8 1) := bc 0
  have c1 : W1.cell? ⟨w.heap.size, 1, none⟩ = some (.slice a marks.length cap) := bc 1
  obtain ⟨L, hL⟩ : ∃ L, marks.length = L := ⟨_, rfl⟩
  rw [hL] at hPx hPy c1 hW1 ⊢
  have e1 := fun p => cell_ext (w := W1) c1 p
  have HPx := Lib.hid hPx; have HPy := Lib.hid hPy
  have hx0 : ¬ (x : Int) < 0 := by omega
  have hy0 : ¬ (y : Int) < 0 := by omega
  have hways : (I < 0 ∧ (decide (0 ≤ I) && (decide (J < 0) || decide (I < J))) = false) ∨ (0 ≤ I ∧ J < 0 ∧ (decide (0 ≤ I) && (decide (J < 0) || decide (I < J))) = true) ∨ (0 ≤ I ∧ ¬ J < 0 ∧ I < J ∧ (decide (0 ≤ I) && (decide (J < 0) || decide (I < J))) = true) ∨ (0 ≤ I ∧ ¬ J < 0 ∧ ¬ I < J ∧ (decide (0 ≤ I) && (decide (J < 0) || decide (I < J))) = false) := by
    by_cases h1 : I < 0
    · exact .inl ⟨h1, by rw [decide_eq_false (by omega), Bool.false_and]⟩
    · by_cases h2 : J < 0
      · exact .inr (.inl ⟨by omega, h2, by rw [decide_eq_true (by omega : 0 ≤ I), decide_eq_true h2]; rfl⟩)
      · by_cases h3 : I < J
        · exact .inr (.inr (.inl ⟨by omega, h2, h3, by rw [decide_eq_true (by omega : 0 ≤ I), decide_eq_true h3]; simp⟩))
        · exact .inr (.inr (.inr ⟨by omega, h2, h3, by rw [decide_eq_true (by omega : 0 ≤ I), decide_eq_false h2, decide_eq_false h3]; rfl⟩))
  clear hPx hPy hP hIe hJe hpb bc hI1 hI hB h0 hl
  obtain ⟨R, hR⟩ : ∃ R, (decide (0 ≤ I) && (decide (J < 0) || decide (I < J))) = R := ⟨_, rfl⟩
  rw [hR] at hways ⊢
  clear hR
  rcases hways with ⟨h1, rfl⟩ | ⟨h1, h2, rfl⟩ | ⟨h1, h2, h3, rfl⟩ | ⟨h1, h2, h3, rfl⟩
  all_goals
    go_enter Tryz.func58, Tryz.ntmps58
    go_wp2
    rw [← hW1]
    clear hW1
    refine wp_region_ext (by kernel_rfl) (by kernel_rfl) ?_
    repeat (go_big_quiet_step ((first | (go_at_call_of 92 (x); have hh := HPx.out; exact calls_ext' (v := .int .i64 I) (hh _)) | (go_at_call_of 92 (y); have hh := HPy.out; exact calls_ext' (v := .int .i64 J) (hh _)))))
    refine wpQuiet_nil ?_
    intro w2 hw'
    have hb12 : Below W1.heap.size W1 w2 := by obtain ⟨p, rfl⟩ := hw'; exact below_ext W1 p
    have d0 : w2.cell? ⟨w.heap.size, 0, none⟩ = some (.int .u8 1) := (hb12.cell (p := ⟨_, _, none⟩) (lt_of_cell c0)).trans c0
    have hb2 := hb0.trans (hb12.mono hb0.size)
    clear hw' e1
    go_wp2
    go_ret
    first
    | exact ⟨rfl, hb2⟩
    | exact ⟨ret_bool (a := (decide (J < 0) || decide (I < J))) (by simp; omega), hb2⟩
end Go.Proofs.YtogngcbflhdadaaGreat

/- The contract of pairs.Of on valid rankings. -/
namespace Go.Proofs.YtogngcbflhdadaaGreat
open Go Go.RowKit Go.Shelf

theorem zero43 : Tryz.zeroCells43 = ((List.replicate 100 (0 : Int)).map (Value.int .i64)).toArray := by kernel_rfl
theorem VBlt.mkB {S : Nat → Prop} {w : World} {k : Int} {v : Value} {m : List Int} (h0 : 0 ≤ k ∧ k ≤ 255) (h : RInts S w v m) : VBlt S w (.agg #[.int .u8 k, v]) ⟨k, m⟩ := ⟨_, _, rfl, _, rfl, h0.1, h0.2, h⟩
theorem Same.andB {S : Nat → Prop} {a b c : World} (h : Same S a b) (hz : a.heap.size ≤ b.heap.size) (k : Below b.heap.size b c) : Same S a c := fun x hx hs => (k.block x (by omega)).trans (h x hx hs)
theorem results_row {P : Program} {fn : Func} {p u : Tmp} {ty : TypeId} (h : fn.results = #[.cell p ty, .tmp u]) (tmps : Array Value) (w : World) (b : Nat) (cs : List Value) (x : Value) (hp : tmps.getD p undef = .pointer (some ⟨b, 0, none⟩)) (hu : tmps.getD u undef = x) (hl : (loadVar ty ⟨b, 0, none⟩).run P w = .ok (.agg cs.toArray) w) :
    (results fn tmps).run P w = .ok (.tuple #[.agg cs.toArray, x]) w := by
  rw [results_cell_tmp h, hp, hu]
  simp [asAddr, hl]
theorem belowSetCells {B : Nat} {A X : World} (h : Below B A X) (b : Nat) (hb : B ≤ b) : ∀ (vs : List Value) (o : Nat), Below B A (X.setCells b o vs)
  | [], _ => h
  | v :: r, o => by
    rw [World.setCells]
    exact belowSetCells (h.setCell (p := ⟨b, o, none⟩) hb v) b hb r (o + 1)
set_option maxHeartbeats 8000000 in
set_option maxRecDepth 100000 in
theorem pairsOf (S : Nat → Prop) (C : Nat) (rows : List Row) (a : Option Addr) (m c : Nat) (w : World) (h : VProf S w (.agg #[.int .i64 C, .int .u8 1, .slice a m c]) ⟨(C : Int), 1, rows⟩) (g : chkP ⟨(C : Int), 1, rows⟩ = 0) (hC10 : C ≤ 10) :
    Calls Tryz.prog 26 #[.agg #[.int .i64 C, .int .u8 1, .slice a m c]] w fun e w' => e = .returned (.tuple #[.agg ((fl 100 (matF rows C)).map (Value.int .i64)).toArray, .int .i64 0]) ∧ Below w.heap.size w w' := by
  have hv := chkP_zero.1 g
  obtain ⟨W0, hW0⟩ : ∃ W0, W0 = (w.alloc (.cells #[.int .i64 C, .int .u8 1, .slice a m c] 24)).alloc (.cells Tryz.zeroCells43 43) := ⟨_, rfl⟩
  have hb0 : Below w.heap.size w W0 := by rw [hW0]; exact (below_new w _).alloc (by simp) _
  have hz0 : W0.heap.size = w.heap.size + 2 := by rw [hW0]; simp
  have hgP : W0.heap[w.heap.size]? = some (.cells #[.int .i64 C, .int .u8 1, .slice a m c] 24 (0, 0)) := by rw [hW0]; exact box_old _ (box_new w _)
  have hgM : Arr .i64 W0 (w.heap.size + 1) 43 (List.replicate 100 0) := by
    unfold Arr
    rw [hW0, ← zero43]
    simpa using box_new (w.alloc (.cells #[.int .i64 C, .int .u8 1, .slice a m c] 24)) (.cells Tryz.zeroCells43 43)
  have hCk := profCheck S _ _ W0 (h.same (.of_below hb0))
  rw [g] at hCk
  have hRr : RRows (Cut S w.heap.size) w (.slice a m c) rows := by
    obtain ⟨_, _, e1, -, -, hR⟩ := h
    simp only [Value.agg.injEq, Array.mk.injEq, List.cons.injEq, and_true, true_and] at e1
    rw [e1]; exact hR.cut
  obtain rfl : m = rows.length := RSl.len hRr
  obtain ⟨n, hn⟩ : ∃ n, rows.length = n := ⟨_, rfl⟩
  have hn64 : n ≤ 64 := by rw [← hn]; exact hv.rows
  have hmany : ∀ r ∈ rows, 0 < r.many ∧ r.many ≤ 1000000 := fun r hr => hv.many r hr
  have hsum : sumR rows ≤ 1000000 := hv.sum
  have hbd : ∀ k z, 0 ≤ matF (rows.take k) C z ∧ matF (rows.take k) C z ≤ 1000000 := fun k z => by
    have h1 := matF_bound (rows := rows.take k) (fun r hr => by have := hmany r (List.mem_of_mem_take hr); omega) C z
    have h2 := sumR_takeL (fun r hr => (hmany r hr).1) (b := rows) k
    omega
  have hst : ∀ k (hk : k < rows.length), sumR (rows.take (k + 1)) = sumR (rows.take k) + rows[k].many := fun k hk => sumR_take hk
  rw [hn] at hRr hCk hgP hW0 ⊢
  have HCk := Lib.hid hCk; have HR := Lib.hid hRr; have Hn := Lib.hid hn; have Hmany := Lib.hid hmany; have Hbd := Lib.hid hbd; have HP := Lib.hid hgP; have HM := Lib.hid hgM; have Hb0 := Lib.hid hb0; have Hz0 := Lib.hid hz0
  have hC10I : (C : Int) ≤ 10 := by omega
  clear hCk hRr hn hmany hbd hgP hgM hb0 hz0 h g hv hst hsum
  subst hW0
  go_enter Tryz.func26, Tryz.ntmps26
  go_wp2_with (go_at_call 57; refine HCk.out.mono ?_; rintro e w1 ⟨rfl, hb⟩; have B1 := Lib.hid hb; obtain ⟨p0, p1, p2, pl⟩ := box3 HP.out hb; clear hb)
  have HB1 := Lib.hid (Hb0.out.trans (B1.out.mono (by rw [Hz0.out]; omega)))
  have HM1 := Lib.hid (HM.out.below B1.out)
  have HP1 := Lib.hid ((B1.out.block _ (size_of_box HP.out)).trans HP.out)
  have hz1 := size_of_box HM1.out
  clear p0 p1 p2 pl HM HP B1
  go_loopw [5, 6, 7, 8, 18] (fun _ _ _ _ i wr => ∃ k : Nat, k ≤ n ∧ i = .int .i64 k ∧ Hid (Arr .i64 wr (w.heap.size + 1) 43 (fl 100 (matF (rows.take k) C))) ∧ Hid (wr.heap[w.heap.size]? = some (.cells #[.int .i64 C, .int .u8 1, .slice a n c] 24 (0, 0))) ∧ Hid (Below w.heap.size w wr)) (fun _ _ _ _ i _ => n - (intOf i).toNat)
  case atStart => exact ⟨0, Nat.zero_le _, rfl, Lib.hid (by rw [List.take_zero, mat_nil]; exact HM1.out), HP1, HB1⟩
  case round =>
    clear HM1 HP1 HB1
    obtain ⟨k, hk, rfl, hA, hPx, hB⟩ := hrel
    obtain ⟨p0, p1, p2, pl⟩ := box3 hPx.out (Below.refl _ _)
    have hgz := size_of_box hA.out
    by_cases hlt : k < n
    · have hltI : (k : Int) < n := by omega
      have hlr : k < rows.length := by rw [Hn.out]; exact hlt
      obtain ⟨b, off, cc, dd, rfl, hS, hbw, hc, hd, hx⟩ := RSl.at2 HR.out k hlr
      obtain ⟨ax, capx, rfl, rfl, -, -, hI⟩ := hx.open
      have hc' := (Same.cell (S := Cut S w.heap.size) (fun b _ hs => hB.out.block b hs.2) hS hc)
      have hd' := (Same.cell (S := Cut S w.heap.size) (fun b _ hs => hB.out.block b hs.2) hS hd)
      have hmn := Hmany.out _ (List.getElem_mem hlr)
      obtain ⟨mk, hmk⟩ : ∃ x, rows[k].marks = x := ⟨_, rfl⟩
      obtain ⟨many, hmy⟩ : ∃ x, rows[k].many = x := ⟨_, rfl⟩
      have hend := matP_end (C := C) hlr
      rw [hmk, hmy] at hend
      rw [hmk] at hI hc'
      rw [hmy] at hd' hmn
      obtain ⟨L, hL⟩ : ∃ L, mk.length = L := ⟨_, rfl⟩
      rw [hL] at hI hc'
      obtain ⟨hf, hhf⟩ : ∃ f, matF (rows.take k) C = f := ⟨_, rfl⟩
      have hbk := Hbd.out k
      rw [hhf] at hend hbk
      have hA0 := hA.out
      rw [hhf, ← matP_start hf mk many C] at hA0
      have hbr : b < wr.heap.size := by have := hB.out.size; omega
      obtain ⟨wk, hwk⟩ : ∃ q, q = (wr.alloc (.cells #[.slice ax L capx, .int .i64 many] 50)).alloc (.cells #[.int .u8 1, .slice ax L capx] 58) := ⟨_, rfl⟩
      have hbk2 : Below wr.heap.size wr wk := by rw [hwk]; exact (below_new wr _).alloc (by simp) _
      have hrb : wk.heap[wr.heap.size]? = some (.cells #[.slice ax L capx, .int .i64 many] 50 (0, 0)) := by rw [hwk]; exact box_old _ (box_new wr _)
      have hbb : wk.heap[wr.heap.size + 1]? = some (.cells #[.int .u8 1, .slice ax L capx] 58 (0, 0)) := by rw [hwk]; simpa using box_new (wr.alloc (.cells #[.slice ax L capx, .int .i64 many] 50)) (.cells #[.int .u8 1, .slice ax L capx] 58)
      have hpb := (hbk2.block _ (size_of_box hPx.out)).trans hPx.out
      have hcl : ∀ W, Same (fun b => b ≠ w.heap.size + 1) wk W → wk.heap.size ≤ W.heap.size → (W.cell? ⟨w.heap.size, 0, none⟩ = some (.int .i64 C) ∧ W.cell? ⟨wr.heap.size, 1, none⟩ = some (.int .i64 many) ∧ W.cell? ⟨wr.heap.size + 1, 0, none⟩ = some (.int .u8 1) ∧ W.cell? ⟨wr.heap.size + 1, 1, none⟩ = some (.slice ax L capx) ∧ W.heap[w.heap.size]? = some (.cells #[.int .i64 C, .int .u8 1, .slice (some ⟨b, off, none⟩) n c] 24 (0, 0)) ∧ w.heap.size < W.heap.size ∧ wr.heap.size + 1 < W.heap.size) := fun W hW hz => by
        have e1 := (hW _ (size_of_box hpb) (by omega)).trans hpb
        have e2 := (hW _ (size_of_box hrb) (by omega)).trans hrb
        have e3 := (hW _ (size_of_box hbb) (by omega)).trans hbb
        exact ⟨(own_box (Below.refl _ W) (size_of_box e1) e1).2.1 0, (own_box (Below.refl _ W) (size_of_box e2) e2).2.1 1, (own_box (Below.refl _ W) (size_of_box e3) e3).2.1 0, (own_box (Below.refl _ W) (size_of_box e3) e3).2.1 1, e1, size_of_box e1, size_of_box e3⟩
      have hPr := fun (W : World) (x y : Nat) (hW : Below w.heap.size w W) => balPrefers (Cut S w.heap.size) (.agg #[.int .u8 1, .slice ax L capx]) mk x y W (VBlt.mkB (by omega) (hI.same (fun b _ hs => hW.block b hs.2)))
      have HCl := Lib.hid hcl; have HPr := Lib.hid hPr; have Hend := Lib.hid hend; have Hbk := Lib.hid hbk; have Hwk := Lib.hid hwk; have HAk := Lib.hid (hA0.below hbk2); have HBk := Lib.hid (hB.out.trans (hbk2.mono hB.out.size))
      clear hcl hPr hend hbk hwk hA0 hbk2 hrb hbb hpb hA hPx hB hI hx hc hd hmk hmy hL hhf hS hbw
      go_wp2
      rw [← Hwk.out]
      clear Hwk p0 p1 p2 pl hc' hd'
      go_loopw [7, 8, 29] (fun _ _ i wq => ∃ x : Nat, x ≤ C ∧ i = .int .i64 x ∧ Hid (Arr .i64 wq (w.heap.size + 1) 43 (fl 100 (matP hf mk many C x 0))) ∧ Hid (Same (fun b => b ≠ w.heap.size + 1) wk wq) ∧ wk.heap.size ≤ wq.heap.size ∧ Hid (Below w.heap.size w wq)) (fun _ _ i _ => C - (intOf i).toNat)
      case atStart => exact ⟨0, Nat.zero_le _, rfl, HAk, Lib.hid (Same.refl _ _), Nat.le_refl _, HBk⟩
      case round =>
        clear HAk HBk
        obtain ⟨x, hx, rfl, hAx, hSx, hzx, hBx⟩ := hrel
        obtain ⟨k0, k1, k2, k3, k4, k5, k6⟩ := HCl.out _ hSx.out hzx
        by_cases hltx : x < C
        · have hltX : (x : Int) < C := by omega
          clear k4
          go_wp2
          clear k0 k1 k2 k3 k5 k6
          go_loopw [8, 34] (fun _ i wq => ∃ y : Nat, y ≤ C ∧ i = .int .i64 y ∧ Hid (Arr .i64 wq (w.heap.size + 1) 43 (fl 100 (matP hf mk many C x y))) ∧ Hid (Same (fun b => b ≠ w.heap.size + 1) wk wq) ∧ wk.heap.size ≤ wq.heap.size ∧ Hid (Below w.heap.size w wq)) (fun _ i _ => C - (intOf i).toNat)
          case atStart => exact ⟨0, Nat.zero_le _, rfl, hAx, hSx, hzx, hBx⟩
          case round =>
            clear hAx hSx hzx hBx
            obtain ⟨y, hy, rfl, hAy, hSy, hzy, hBy⟩ := hrel
            obtain ⟨k0, k1, k2, k3, -, k5, k6⟩ := HCl.out _ hSy.out hzy
            by_cases hlty : y < C
            · have hltY : (y : Int) < C := by omega
              have hP1 := HPr.out _ x y hBy.out
              cases hp : prefB mk (x : Int) (y : Int) with
              | false =>
                rw [hp] at hP1
                have hs := matP_skip (h := hf) (many := many) (C := C) hp
                have HP2 := Lib.hid hP1; have Hs := Lib.hid hs
                clear hP1 hs hp
                go_wp2_with (go_at_call 58; refine HP2.out.mono ?_; rintro e w6 ⟨rfl, hb⟩; have HB6 := Lib.hid hb; have hz6 := hb.size; clear hb)
                exact ⟨⟨y + 1, by omega, by go_num, Lib.hid (by rw [Hs.out]; exact hAy.out.below HB6.out), Lib.hid (hSy.out.andB hzy HB6.out), by omega, Lib.hid (hBy.out.trans (HB6.out.mono hBy.out.size))⟩, by simp [intOf]; omega⟩
              | true =>
                rw [hp] at hP1
                have hs := matP_step (h := hf) (many := many) hltx hlty hC10 hp
                have HP2 := Lib.hid hP1; have Hs := Lib.hid hs
                have hxy : x * 10 + y < (fl 100 (matP hf mk many C x y)).length := by rw [fl_length]; omega
                have hcy := fun (W : World) (hW : Below wr.heap.size wr W) => (hAy.out.below hW).cell hxy
                rw [matP_get (by omega)] at hcy
                have hbz := Hbk.out (x * 10 + y)
                obtain ⟨old, hold⟩ : ∃ z, hf (x * 10 + y) = z := ⟨_, rfl⟩
                rw [hold] at hcy hbz hs
                have HCy := Lib.hid hcy; have Hs := Lib.hid hs
                have hxI : (x : Int) < 10 := by omega
                have hyI : (y : Int) < 10 := by omega
                have hx10 : x < 10 := by omega
                have hy10 : y < 10 := by omega
                have hwo : IntKind.i64.wrap (old + many) = old + many := by rw [IntKind.wrap_i64]; omega
                clear hP1 hs hp hcy hold hxy
                go_wp2_with (go_at_call 58; refine HP2.out.mono ?_; rintro e w6 ⟨rfl, hb⟩; have HB6 := Lib.hid hb; have hz6 := hb.size; clear hb)
                have cy := HCy.out w6 HB6.out
                have hA6 := hAy.out.below HB6.out
                have hf6 := hA6.frozen (x * 10 + y)
                have hg6 := size_of_box hA6
                have hS6 := Lib.hid (hSy.out.andB hzy HB6.out)
                obtain ⟨k0, k1, k2, k3, -, k5, k6⟩ := HCl.out _ hS6.out (by omega)
                have HA6 := Lib.hid hA6
                clear hA6
                go_region_law (fail)
                all_goals
                  go_wp2_with fail
                  exact ⟨⟨y + 1, by omega, by go_num, Lib.hid (by rw [Hs.out]; exact (HA6.out.below (Below.drew (Below.refl _ _))).set _ _), Lib.hid ((hS6.out.andB (by omega) (Below.drew (Below.refl _ _))).setCell (p := ⟨w.heap.size + 1, _, none⟩) (by simp) _), by simp; omega, Lib.hid ((Below.drew (hBy.out.trans (HB6.out.mono hBy.out.size))).setCell (p := ⟨w.heap.size + 1, _, none⟩) (by simp) _)⟩, by simp [intOf]; omega⟩
            · obtain rfl : C = y := by omega
              go_wp2
              exact ⟨⟨x + 1, by omega, by go_num, Lib.hid (by rw [← matP_next]; exact hAy.out), hSy, hzy, hBy⟩, by simp [intOf]; omega⟩
        · obtain rfl : C = x := by omega
          go_wp2
          exact ⟨⟨k + 1, by omega, by go_num, Lib.hid (by rw [← Hend.out]; exact hAx.out), Lib.hid k4, hBx⟩, by simp [intOf]; omega⟩
    · obtain rfl : n = k := by omega
      have hA2 := hA.out
      rw [List.take_of_length_le (by rw [Hn.out]; exact Nat.le_refl _)] at hA2
      obtain ⟨cs, hcs⟩ : ∃ cs, (fl 100 (matF rows C)).map (Value.int .i64) = cs := ⟨_, rfl⟩
      have hlen : cs.length = 100 := by rw [← hcs, List.length_map, fl_length]
      have hone : ∀ v ∈ cs, v.oneCell' = true := fun v hv => by
        rw [← hcs] at hv
        obtain ⟨z, -, rfl⟩ := List.mem_map.1 hv
        rfl
      have hrg : wr.rangeAt (w.heap.size + 1) 0 cs := fun j v hj => by
        rw [← hcs, List.getElem?_map] at hj
        obtain ⟨hj1, -⟩ := List.getElem?_eq_some_iff.1 (show (fl 100 (matF rows C))[j]? = some ((fl 100 (matF rows C))[j]'(by
          cases hq : (fl 100 (matF rows C))[j]? with
          | none => rw [hq] at hj; cases hj
          | some x => exact (List.getElem?_eq_some_iff.1 hq).1)) from List.getElem?_eq_getElem _)
        rw [List.getElem?_eq_getElem hj1] at hj
        rw [Nat.zero_add, hA2.cell hj1]
        exact hj
      have hth : wr.there (w.heap.size + 1) 0 cs.toArray.size := fun j hj => by
        have hj2 : j < cs.length := by simpa using hj
        exact ⟨hrg.isSome j hj2, by rw [Nat.zero_add]; exact hA2.frozen j⟩
      have hi : (Tryz.prog.info? 43).map (·.size) = some cs.length := by rw [hlen]; kernel_rfl
      have hi2 : (Tryz.prog.info? 43).map (·.size) = some cs.toArray.size := by rw [List.size_toArray]; exact hi
      have hld := run_loadVar_mid (P := Tryz.prog) (wr.setCells (w.heap.size + 1) 0 cs) (w.heap.size + 1) 0 43 cs _ (World.rangeAt_setCells_same wr (w.heap.size + 1) 0 cs (by simpa using hth)) Tryz.underlying43 rfl hi
      have hbl := belowSetCells hB.out (w.heap.size + 1) (by omega) cs 0
      have Hrg := Lib.hid hrg; have Hth := Lib.hid hth; have Hi := Lib.hid hi; have Hi2 := Lib.hid hi2; have Hone := Lib.hid hone; have Hld := Lib.hid hld; have Hbl := Lib.hid hbl; have Hcs := Lib.hid hcs
      clear hrg hth hi hi2 hone hld hbl hcs hA2 hlen hA hB hPx p0 p1 p2 pl hlt hk
      go_wp2_with fail
      refine wp_load_mid 43 (.tmp 2) rfl (w.heap.size + 1) 0 rfl cs _ Hrg.out Tryz.underlying43 rfl Hi.out ?_
      go_wp2_with (first
        | (refine wpList_store_mid rfl 43 (.tmp 2) (.tmp 54) rfl (w.heap.size + 1) 0 cs.toArray (by rfl) (by rfl) Hth.out Hi2.out (all_oneCell_toArray Hone.out) ?_)
        | (refine wp_store_mid 43 (.tmp 2) (.tmp 54) rfl (w.heap.size + 1) 0 cs.toArray (by rfl) (by rfl) Hth.out Hi2.out (all_oneCell_toArray Hone.out) ?_))
      have hld := Hld.out
      refine bodyPost_ret (v := .tuple #[.agg cs.toArray, .int .i64 0]) (results_row Tryz.results26 _ _ (w.heap.size + 1) cs _ (by rfl) (by rfl) hld) rfl ⟨by rw [Hcs.out], Hbl.out⟩
end Go.Proofs.YtogngcbflhdadaaGreat

/- Ratios: sum, does and Add of the program, at valid ratios that are not negative and whose products are small. -/
namespace Go.Proofs.YtogngcbflhdadaaGreat
open Go Go.RowKit Go.Shelf Limb

/-- A small valid ratio that is not negative. -/
structure Pos (w : World) (v1 v2 : Value) (m n : Nat) : Prop where
  num : NumAt w v1 m
  den : NumAt w v2 n
  ok : ratChk false (lim m) (lim n) = 0
  l1 : (lim m).length ≤ 96
  l2 : (lim n).length ≤ 96
  pos : 0 < n
theorem Pos.same {w w' : World} {v1 v2 : Value} {m n : Nat} (h : Pos w v1 v2 m n) (hb : Below w.heap.size w w') : Pos w' v1 v2 m n := ⟨h.num.same hb, h.den.same hb, h.ok, h.l1, h.l2, h.pos⟩
/-- The sum's parts are small. -/
structure AddFit (m1 n1 m2 n2 : Nat) : Prop where
  f1 : (lim (m1 * n2)).length ≤ 96
  f2 : (lim (m2 * n1)).length ≤ 96
  f3 : (lim (n1 * n2)).length ≤ 96
  f4 : (lim (m1 * n2 + m2 * n1)).length ≤ 96
end Go.Proofs.YtogngcbflhdadaaGreat

/- A sum of two whole numbers, kept in a box of its own; Whole's result. -/
namespace Go.Proofs.YtogngcbflhdadaaGreat
open Go Go.RowKit Go.Shelf Limb

/-- A whole number in a box that its parts do not lie in. -/
structure RtBox (w : World) (g n : Nat) (c1 : Option Addr) (d1 : Nat) (c2 : Option Addr) (d2 : Nat) : Prop where
  box : w.heap[g]? = some (.cells #[.bool false, .slice c1 (lim n).length d1, .slice c2 1 d2] 54 (0, 0))
  val : VRt (fun b => b ≠ g) w (.agg #[.bool false, .slice c1 (lim n).length d1, .slice c2 1 d2]) (whole (n : Int))
theorem RtBox.below {w w' : World} {g n d1 d2 : Nat} {c1 c2 : Option Addr} (h : RtBox w g n c1 d1 c2 d2) (hb : Below w.heap.size w w') : RtBox w' g n c1 d1 c2 d2 :=
  ⟨(hb.block _ (size_of_box h.box)).trans h.box, h.val.same (.of_below hb)⟩
theorem VRt.avoid {S : Nat → Prop} {w : World} {b : Bool} {u v : Value} {x : Rt} {g : Nat} {cs : Array Value} {e : TypeId} (h : VRt S w (.agg #[.bool b, u, v]) x) (hg : w.heap[g]? = some (.cells cs e (0, 0))) (hne : ∀ (i : Nat) (y : Int), cs[i]? ≠ some (Value.int .u32 y)) : VRt (fun b => b ≠ g) w (.agg #[.bool b, u, v]) x := by
  obtain ⟨u1, u2, hh, h1, h2⟩ := h
  exact ⟨u1, u2, hh, h1.avoid hg hne, h2.avoid hg hne⟩
/-- What Add gives, kept in a box of its own. -/
def AddR (wr : World) (n : Nat) (s1 s2 : Value) (wc : World) : Prop :=
  ∃ g c1 d1 c2 d2, s1 = .pointer (some ⟨g, 0, none⟩) ∧ s2 = .int .i64 0 ∧ RtBox wc g n c1 d1 c2 d2 ∧ Below wr.heap.size wr wc ∧ wr.heap.size ≤ g
theorem RtBox.lay {w4 : World} {n d1 d2 : Nat} {c1 c2 : Option Addr} {S : Nat → Prop} (hv : VRt S w4 (.agg #[.bool false, .slice c1 (lim n).length d1, .slice c2 1 d2]) (whole (n : Int))) :
    RtBox (w4.alloc (.cells #[.bool false, .slice c1 (lim n).length d1, .slice c2 1 d2] 54)) w4.heap.size n c1 d1 c2 d2 :=
  ⟨box_new _ _, (hv.same (.of_below (below_new _ _))).avoid (box_new _ _) (bss_ne _ _ _ (by simp) (by simp))⟩
theorem RtBox.store {w4 : World} {g n d1 d2 : Nat} {c1 c2 : Option Addr} {S : Nat → Prop} {x : Bool} {a1 a2 : Option Addr} {m1 m2 k1 k2 : Nat} (hg : w4.heap[g]? = some (.cells #[.bool x, .slice a1 m1 k1, .slice a2 m2 k2] 54 (0, 0)))
    (hv : VRt S w4 (.agg #[.bool false, .slice c1 (lim n).length d1, .slice c2 1 d2]) (whole (n : Int))) :
    RtBox (((w4.setCell ⟨g, 0, none⟩ (.bool false)).setCell ⟨g, 1, none⟩ (.slice c1 (lim n).length d1)).setCell ⟨g, 2, none⟩ (.slice c2 1 d2)) g n c1 d1 c2 d2 := by
  refine ⟨?_, ?_⟩
  · have := heap_setCell_at (o := 2) (heap_setCell_at (o := 1) (heap_setCell_at (o := 0) hg (.bool false)) (.slice c1 (lim n).length d1)) (.slice c2 1 d2)
    simpa using this
  · exact (hv.avoid hg (bss_ne _ _ _ (by simp) (by simp))).same ((((Same.refl _ _).setCell (p := ⟨g, 0, none⟩) (by simp) _).setCell (p := ⟨g, 1, none⟩) (by simp) _).setCell (p := ⟨g, 2, none⟩) (by simp) _)
theorem AddR.laid {wr w4 : World} {n d1 d2 : Nat} {c1 c2 : Option Addr} {S : Nat → Prop} (hv : VRt S w4 (.agg #[.bool false, .slice c1 (lim n).length d1, .slice c2 1 d2]) (whole (n : Int))) (hw : Below wr.heap.size wr w4) :
    AddR wr n (.pointer (some ⟨w4.heap.size, 0, none⟩)) (.int .i64 0) (w4.alloc (.cells #[.bool false, .slice c1 (lim n).length d1, .slice c2 1 d2] 54)) :=
  ⟨_, _, _, _, _, rfl, rfl, .lay hv, hw.alloc hw.size _, hw.size⟩
theorem whole_same {S T : Nat → Prop} {u v : Value} {a b : Nat} {w : World} (hab : a = b) (hx : VRt S w u (whole (a : Int))) (hy : VRt T w v (whole (b : Int))) : Calls Tryz.prog 28 #[u, v] w fun e w' => e = .returned (.bool true) ∧ Below w.heap.size w w' := by
  subst hab
  exact r04Same_eq S T u v _ w hx hy
theorem whole_of {S : Nat → Prop} {w : World} {u1 u2 : Option Addr} {m1 m2 n : Nat} (k1 : RU S w (.slice u1 (lim n).length m1) (lim n)) (k2 : RU S w (.slice u2 1 m2) [1]) : VRt S w (.agg #[.bool false, .slice u1 (lim n).length m1, .slice u2 1 m2]) (whole (n : Int)) := by
  rw [whole_nat]
  exact ⟨_, _, rfl, k1, k2⟩
end Go.Proofs.YtogngcbflhdadaaGreat

/- The law SingleBorda: its walk (printed by genborda.py). -/
namespace Go.Proofs.YtogngcbflhdadaaGreat
open Go Go.RowKit Go.Shelf Limb

theorem sinBordL (S T : Nat → Prop) (u v : Value) (p : Prof) (seats : Int) (lot : List Int) (w : World) (o : Outc) {n1 n2 n3 : Nat} (h : VProf S w u p) (hv : RInts T w v lot) (hlo : lot.length ≤ 1000000) (h0 : singleI 3 p seats lot = 0) (hO : singleV 3 p seats lot = o) (e1 : o.elected.length = n1) (e2 : o.rounds.length = n2) (e3 : o.ties.length = n3) :
    Calls Tryz.prog 20 #[u, .int .i64 seats, v] w fun e w' => ∃ b1 c1 b2 c2 b3 c3, e = .returned (.tuple #[.agg #[.slice b1 n1 c1, .slice b2 n2 c2, .slice b3 n3 c3], .int .i64 0]) ∧ VOutc Any w' (.agg #[.slice b1 n1 c1, .slice b2 n2 c2, .slice b3 n3 c3]) o ∧ Below w.heap.size w w' :=
  (sinBorda S T u v p seats lot w h hv hlo).mono fun e w' hh => by
    obtain ⟨b1, m1, c1, b2, m2, c2, b3, m3, c3, rfl, k, hb⟩ := GivesSI.open hh
    rw [hO] at k
    obtain ⟨q1, q2, q3⟩ := k.parts
    obtain rfl : m1 = n1 := (RSl.len q1).trans e1
    obtain rfl : m2 = n2 := (RSl.len q2).trans e2
    obtain rfl : m3 = n3 := (RSl.len q3).trans e3
    rw [h0]
    exact ⟨_, _, _, _, _, _, rfl, VOutc.mono (fun _ _ => trivial) k, hb⟩
/-- Do the first k ballots, and there is one, all rank c first? -/
def fstB (rows : List Row) (c : Int) (k : Nat) : Bool := decide (0 < rows.length) && (rows.take k).all fun r => r.marks.head? == some c
theorem fstB_zero (rows : List Row) (c : Int) : fstB rows c 0 = decide (0 < rows.length) := by simp [fstB]
theorem fstB_succ {rows : List Row} {c : Int} {k : Nat} (hk : k < rows.length) : fstB rows c (k + 1) = (fstB rows c k && (rows[k].marks.head? == some c)) := by
  rw [fstB, fstB, List.take_succ_eq_append_getElem hk, List.all_append, Bool.and_assoc]
  simp
/-- What is known of a Borda count. -/
structure BorF (C : Nat) (had el : List Int) (rows : List Row) (f : Nat → Nat) : Prop where
  hf : ∀ c, c < C → had.getD c 0 = (f c : Int)
  row : ∀ c, c < C → rowTo rows c C = (f c : Int)
  rb : ∀ c j, j ≤ C → 0 ≤ rowTo rows c j ∧ rowTo rows c j ≤ 10000000
  pb : ∀ x y, 0 ≤ pairF rows x y ∧ pairF rows x y ≤ 1000000
  fb : ∀ c, c < C → f c ≤ 10000000
  win : ∀ c, c < C → fstB rows (c : Int) rows.length = true → ∀ (h : 0 < el.length), el[0] = (c : Int)
theorem borF {p : Prof} {sn : Nat} {lot : List Int} {C : Nat} (h0 : singleI 3 p sn lot = 0) (hC : p.cands = (C : Int)) (hF : Facts 3 p sn lot C (hadL 3 p.rows C)) : ∃ f : Nat → Nat, BorF C (hadL 3 p.rows C) (seatSt (hadL 3 p.rows C) lot sn).elected p.rows f := by
  obtain ⟨ck, -, -, -, cm, cf, cr, csum⟩ := counted h0
  have hmk : ∀ r ∈ p.rows, r.marks.Nodup ∧ ∀ m ∈ r.marks, 0 ≤ m ∧ m < C := fun r hr => by
    have h1 := cf r hr
    rw [hC] at h1
    obtain ⟨q1, q2, -⟩ := rank_marks ck h1
    exact ⟨q1, q2⟩
  have hpb : ∀ x y, 0 ≤ pairF p.rows x y ∧ pairF p.rows x y ≤ 1000000 := fun x y => by
    have := pairF_bound (rows := p.rows) (fun r hr => by have := cm r hr; omega) x y
    omega
  have hget : ∀ c, c < C → (hadL 3 p.rows C).getD c 0 = hadF 3 p.rows C c := fun c hc => by
    rw [List.getD_eq_getElem?_getD, List.getElem?_eq_getElem (by rw [hadL_length]; exact hc)]
    simp only [hadL_fl, Option.getD_some]
    rw [fl_get]
  have hc10 := hF.c10
  have hrb : ∀ c j, 0 ≤ rowTo p.rows c j ∧ rowTo p.rows c j ≤ 1000000 * (j : Int) := fun c j => by
    induction j with
    | zero => rw [rowTo_zero]; omega
    | succ j ih => rw [rowTo_succ]; have := hpb c j; omega
  refine ⟨fun c => (hadF 3 p.rows C c).toNat, fun c hc => ?_, fun c hc => ?_, fun c j hj => ?_, hpb, fun c hc => ?_, fun c hc hf h => ?_⟩
  · have := hF.pts c
    rw [hget c hc] at this ⊢
    omega
  · have := hF.pts c
    rw [hget c hc] at this
    rw [rowTo_all hmk]
    omega
  · have := hrb c j
    omega
  · have := hF.pts c
    rw [hget c hc] at this
    omega
  · have hs := hF.s
    rw [fstB, List.take_length] at hf
    simp only [Bool.and_eq_true, decide_eq_true_eq, List.all_eq_true, beq_iff_eq] at hf
    refine first_wins hF.isLot hmk (fun r hr => cm r hr) (fun e => by rw [e] at hf; simp at hf) hc (fun r hr => ?_) (by omega) h
    have := hf.2 r hr
    cases hm : r.marks with
    | nil => rw [hm] at this; cases this
    | cons z t => rw [hm] at this; simp only [List.head?_cons, Option.some.injEq] at this; exact ⟨t, by rw [this]⟩
set_option linter.unusedSimpArgs false in
set_option maxHeartbeats 16000000 in
set_option maxRecDepth 100000 in
theorem law_sbor (u v : Value) (p : Prof) (lot : List Int) (w : World) (h : VProf Any w u p) (hv : RInts Any w v lot) :
    Calls Tryz.prog 4 #[u, v] w fun e w' => e = .returned (.bool true) ∧ Below w.heap.size w w' := by
  have h1 := h
  obtain ⟨a, m, c, rfl⟩ := h.open
  obtain ⟨a2, c2, rfl, -, -⟩ := RSl.shape hv
  obtain ⟨W0, hW0⟩ : ∃ W0, W0 = w.alloc (.cells #[.int .i64 p.cands, .int .u8 p.kind, .slice a m c] 24) := ⟨_, rfl⟩
  have hb0 : Below w.heap.size w W0 := by rw [hW0]; exact below_new w _
  have hg0 : W0.heap[w.heap.size]? = some (.cells #[.int .i64 p.cands, .int .u8 p.kind, .slice a m c] 24 (0, 0)) := by rw [hW0]; exact box_new w _
  have hP := h1.same (.of_below hb0)
  have hL := hv.same (.of_below hb0)
  have hMay := l11May Any Any 3 _ _ p 1 lot W0 hP hL
  by_cases hm : mayS 3 p 1 lot = true
  · obtain ⟨r, hr0, hr, h0⟩ := mayS_true hm
    obtain rfl : r = 3 := by omega
    clear hr0 hr
    rw [hm] at hMay
    obtain ⟨C, sn, hCn, hsn, hF⟩ := facts h0
    obtain rfl : sn = 1 := by omega
    clear hsn
    obtain ⟨f, hBF⟩ := borF h0 hCn hF
    have hck := chk_of_single h0
    have hkd := (counted h0).kind
    obtain ⟨pc, kk, pr⟩ := p
    simp only at hCn hF hBF hP hMay hg0 hW0 h1 hkd ⊢
    obtain rfl : kk = 1 := hkd
    subst hCn
    have hll : lot.length = C := hF.isLot.1
    have hc10 := hF.c10
    have hC10 : C ≤ 10 := by omega
    have hlo : lot.length ≤ 1000000 := by omega
    obtain ⟨had, hhad⟩ : ∃ l, hadL 3 pr C = l := ⟨_, rfl⟩
    rw [hhad] at hF hBF
    obtain ⟨el, hel⟩ : ∃ l, (seatSt had lot 1).elected = l := ⟨_, rfl⟩
    obtain ⟨ts, hts⟩ : ∃ l, (seatSt had lot 1).ties = l := ⟨_, rfl⟩
    obtain ⟨nt, hnt⟩ : ∃ n, ts.length = n := ⟨_, rfl⟩
    have hO := hF.out
    rw [hel, hts] at hO
    rw [hel] at hBF
    have hell : el.length = 1 := by rw [← hel]; exact hF.el
    have hRr : RRows Any W0 (.slice a m c) pr := by
      obtain ⟨_, _, e1, -, -, hR⟩ := hP
      simp only [Value.agg.injEq, Array.mk.injEq, List.cons.injEq, and_true, true_and] at e1
      rw [e1]; exact hR
    obtain rfl : m = pr.length := RSl.len hRr
    have hn64 : pr.length ≤ 64 := (chkP_zero.1 hck).rows
    have hCt := fun (W : World) (hW : Below W0.heap.size W0 W) => sinBordL Any Any _ _ ⟨(C : Int), 1, pr⟩ 1 lot W _ (hP.same (.of_below hW)) (hL.same (.of_below hW)) hlo h0 hO hell rfl hnt
    obtain ⟨cs, hcs⟩ : ∃ cs, (fl 100 (matF pr C)).map (Value.int .i64) = cs := ⟨_, rfl⟩
    have hOf := fun (W : World) (hW : Below W0.heap.size W0 W) => pairsOf Any C pr a pr.length c W (hP.same (.of_below hW)) hck hC10
    simp only [hcs] at hOf
    have hlen : cs.length = 100 := by rw [← hcs, List.length_map, fl_length]
    have hone : ∀ v ∈ cs, v.oneCell' = true := fun v hv => by
      rw [← hcs] at hv
      obtain ⟨z, -, rfl⟩ := List.mem_map.1 hv
      rfl
    have hi2 : (Tryz.prog.info? 43).map (·.size) = some cs.toArray.size := by rw [List.size_toArray, hlen]; kernel_rfl
    have hth : ∀ W : World, (W.alloc (.cells Tryz.zeroCells43 43)).there W.heap.size 0 cs.toArray.size := fun W j hj => by
      have hj2 : j < 100 := by rw [List.size_toArray, hlen] at hj; exact hj
      have hA : Arr .i64 (W.alloc (.cells Tryz.zeroCells43 43)) W.heap.size 43 (List.replicate 100 0) := by
        unfold Arr
        rw [zero43]
        exact box_new W _
      exact ⟨by rw [Nat.zero_add, hA.cell (by simpa using hj2)]; rfl, by rw [Nat.zero_add]; exact hA.frozen j⟩
    have hcsAt : ∀ x y, x < C → y < C → cs[x * 10 + y]? = some (.int .i64 (pairF pr x y)) := fun x y hx hy => by
      rw [← hcs, List.getElem?_map, List.getElem?_eq_getElem (by rw [fl_length]; omega), fl_get]
      simp only [Option.map_some]
      rw [matF, show (x * 10 + y) / 10 = x by omega, show (x * 10 + y) % 10 = y by omega, if_pos ⟨hx, hy⟩]
    obtain ⟨n, hn⟩ : ∃ n, pr.length = n := ⟨_, rfl⟩
    simp only [hn] at hP hMay hCt hOf hRr hW0 hg0 hn64 ⊢
    simp only [hll] at hMay hCt ⊢
    rw [hW0] at hMay
    have HM := Lib.hid hMay; have HCt := Lib.hid hCt; have HOf := Lib.hid hOf; have HW0 := Lib.hid hW0; have G0 := Lib.hid hg0; have Hb0 := Lib.hid hb0; have HF := Lib.hid hF; have HBF := Lib.hid hBF; have Hell := Lib.hid hell; have HR := Lib.hid hRr; have Hn := Lib.hid hn; have Hth := Lib.hid hth; have Hi2 := Lib.hid hi2; have Hone := Lib.hid (all_oneCell_toArray hone); have HcsAt := Lib.hid hcsAt; have Hlen := Lib.hid hlen
    clear hMay hCt hOf hW0 hg0 hb0 hF hBF hell hRr hn hth hi2 hone hcsAt hlen hll hlo hP hL h h1 hv hm h0 hO hhad hel hts hnt hck hc10 hcs
    have st0 := Lib.hid True.intro
    go_enter Tryz.func4, Tryz.ntmps4
    go_wp2_with (first
      | (have := st3; go_at_call 27; clear st3; refine (l11Had Any _ _ _ C w4 HV4.out rfl (by rw [List.length_map]; exact HF.out.hlen)).mono ?_; rintro e w5 ⟨ax, cx, rfl, kx, hb⟩; have q5 := bt q4 hb; have HX := Lib.hid kx; have GO := Lib.hid ((hb.block _ (size_of_box GO4.out)).trans GO4.out); have HEl := Lib.hid ((VOutc.same (.of_below hb) HV4.out).parts.1 : RInts Any w5 (.slice b21 1 c21) el); have HM5 : Hid (w5.rangeAt w3.heap.size 0 cs) := Lib.hid (fun j v hj => (Same.of_below (S := Any) hb).cell trivial (HM4.out j v hj)); have hz5 : w3.heap.size < w5.heap.size := (by have := hb.size; omega); clear hb kx this p0 p1 p2 pl o0 o1 o2 ol q4 GO4 HV4 HM4 hz4; obtain ⟨o0, o1, o2, ol⟩ := box3 GO.out (Below.refl _ _); have st4 := Lib.hid True.intro)
      | (have := st2; refine wpList_store_mid rfl 43 (.tmp 7) (.tmp 31) rfl w3.heap.size 0 cs.toArray (by rfl) (by rfl) (Hth.out w3) Hi2.out Hone.out ?_; clear st2; obtain ⟨w4, hw4⟩ : ∃ q, q = (w3.alloc (.cells Tryz.zeroCells43 43)).setCells w3.heap.size 0 cs.toArray.toList := ⟨_, rfl⟩; rw [← hw4]; have hb4 : Below w3.heap.size w3 w4 := (by rw [hw4]; exact belowSetCells (below_new w3 _) w3.heap.size (Nat.le_refl _) _ 0); have HM4 : Hid (w4.rangeAt w3.heap.size 0 cs) := Lib.hid (by rw [hw4]; simpa using World.rangeAt_setCells_same (w3.alloc (.cells Tryz.zeroCells43 43)) w3.heap.size 0 cs (by simpa using Hth.out w3)); have hz4 : w3.heap.size < w4.heap.size := World.block_lt_of_cell? w4 _ (HM4.out 0 (cs[0]'(by rw [Hlen.out]; omega)) (List.getElem?_eq_getElem _)); have q4 := bt q3 hb4; have GO4 := Lib.hid ((hb4.block _ (size_of_box GO3.out)).trans GO3.out); have HV4 := Lib.hid (VOutc.same (.of_below hb4) HV3.out); clear hw4 hb4 q3 GO3 HV3; obtain ⟨p0, p1, p2, pl⟩ := box3 G0.out q4; obtain ⟨o0, o1, o2, ol⟩ := box3 GO4.out (Below.refl _ _); have st3 := Lib.hid True.intro; clear this)
      | (have := st1; go_at_call 26; clear st1; refine (HOf.out _ (bt q2 (below_new _ _))).mono ?_; rintro e w3 ⟨rfl, hb⟩; have hd := bt (below_new w2 _) hb; have q3 := bt q2 hd; have GO3 := Lib.hid (show w3.heap[w2.heap.size]? = some (.cells #[.slice b21 1 c21, .slice b22 1 c22, .slice b23 nt c23] 32 (0, 0)) from lay_at (w := w2) (os := [.cells #[.slice b21 1 c21, .slice b22 1 c22, .slice b23 nt c23] 32]) hb 0 rfl); have HV3 := Lib.hid (VOutc.same (.of_below hd) HV2.out); clear hb hd this p0 p1 p2 pl q2 HV2; have st2 := Lib.hid True.intro)
      | (have := st01; go_at_call 20; clear st01; refine (HCt.out _ q1).mono ?_; rintro e w2 ⟨b21, c21, b22, c22, b23, c23, rfl, kv, hb⟩; have q2 := bt q1 hb; have HV2 := Lib.hid kv; clear kv hb this p0 p1 p2 pl q1; obtain ⟨p0, p1, p2, pl⟩ := box3 G0.out q2; have st1 := Lib.hid True.intro)
      | (have := st0; go_at_call 25; clear st0; refine HM.out.mono ?_; rintro e w1 ⟨rfl, hb⟩; rw [← HW0.out] at hb; have q1 := hb; obtain ⟨p0, p1, p2, pl⟩ := box3 G0.out q1; clear hb this; have st01 := Lib.hid True.intro))
    have HQ := Lib.hid q5
    clear o0 o1 o2 ol q5 st4
    have hC10I : (C : Int) ≤ 10 := by omega
    go_loopw [11, 12, 13, 14, 15, 16] (fun i _ _ _ _ _ wr => ∃ k : Nat, k ≤ C ∧ i = .int .i64 k ∧ Hid (Below w5.heap.size w5 wr)) (fun i _ _ _ _ _ _ => C - (intOf i).toNat)
    case atStart => exact ⟨0, Nat.zero_le _, rfl, Lib.hid (Below.refl _ _)⟩
    case round =>
      obtain ⟨k, hk, rfl, hbr⟩ := hrel
      obtain ⟨p0, p1, p2, pl⟩ := box3 G0.out (bt HQ.out hbr.out)
      by_cases hlt : k < C
      · have hltI : (k : Int) < C := by omega
        have hk10 : k < 10 := by omega
        have hk10I : (k : Int) < 10 := by omega
        go_wp2
        clear p0 p1 p2 pl
        obtain ⟨wa, hwa⟩ : ∃ q, q = wr := ⟨_, rfl⟩
        rw [← hwa] at hbr ⊢
        clear hwa
        go_loopw [12, 14] (fun nv y wr => ∃ (j : Nat) (A : Int), j ≤ C ∧ y = .int .i64 j ∧ nv = .int .i64 A ∧ Hid (A = rowTo pr k j) ∧ 0 ≤ A ∧ A ≤ 10000000 ∧ Hid (Below w5.heap.size w5 wr)) (fun _ y _ => C - (intOf y).toNat)
        case atStart => exact ⟨0, 0, Nat.zero_le _, rfl, rfl, Lib.hid (rowTo_zero _ _).symm, by omega, by omega, hbr⟩
        case round =>
          clear hbr
          obtain ⟨j, A, hj, rfl, rfl, hA, hA0, hA1, hbr⟩ := hrel
          obtain ⟨p0, p1, p2, pl⟩ := box3 G0.out (bt HQ.out hbr.out)
          by_cases hltj : j < C
          · have hltJ : (j : Int) < C := by omega
            have hj10 : j < 10 := by omega
            have hj10I : (j : Int) < 10 := by omega
            have hcell := (Same.of_below (S := Any) hbr.out).cell trivial (HM5.out (k * 10 + j) _ (HcsAt.out k j hlt hltj))
            rw [Nat.zero_add] at hcell
            have hpb := HBF.out.pb k j
            obtain ⟨q, hq⟩ : ∃ q, pairF pr k j = q := ⟨_, rfl⟩
            have hnx := HBF.out.rb k (j + 1) hltj
            rw [rowTo_succ, ← hA.out, hq] at hnx
            rw [hq] at hcell hpb
            have HS : Hid (A + q = rowTo pr k (j + 1)) := Lib.hid (by rw [rowTo_succ, ← hA.out, hq])
            have hw : IntKind.i64.wrap (A + q) = A + q := by rw [IntKind.wrap_i64]; omega
            have hzr : w3.heap.size < wr.heap.size := by have := hbr.out.size; omega
            obtain ⟨hn0, hn1⟩ := hnx
            clear hq hpb hA
            go_wp2
            exact ⟨⟨j + 1, A + q, by omega, by go_num, by go_num, HS, hn0, hn1, hbr⟩, by simp [intOf]; omega⟩
          · obtain rfl : C = j := by omega
            have hAf : A = (f k : Int) := by rw [hA.out, HBF.out.row k hlt]
            obtain ⟨fk, hfk⟩ : ∃ q, f k = q := ⟨_, rfl⟩
            rw [hfk] at hAf
            subst hAf
            have Hfk := Lib.hid hfk
            clear hA hfk hltj hj
            go_wp2
            clear p0 p1 p2 pl
            obtain ⟨wb, hwb⟩ : ∃ q, q = wr := ⟨_, rfl⟩
            rw [← hwb] at hbr ⊢
            clear hwb
            go_loopw [13, 15, 16] (fun fv i _ wr => ∃ (j : Nat) (b : Bool), j ≤ n ∧ i = .int .i64 j ∧ fv = .bool b ∧ Hid (b = fstB pr (k : Int) j) ∧ Hid (Below w5.heap.size w5 wr)) (fun _ i _ _ => n - (intOf i).toNat)
            case atStart => exact ⟨0, _, Nat.zero_le _, rfl, rfl, Lib.hid (by rw [fstB_zero, Hn.out]; try (first | rfl | (apply decide_eq_decide.2; omega))), hbr⟩
            case round =>
              clear hbr
              obtain ⟨j, b, hj, rfl, rfl, hb, hbr⟩ := hrel
              obtain ⟨p0, p1, p2, pl⟩ := box3 G0.out (bt HQ.out hbr.out)
              by_cases hltj : j < n
              · have hltJ : (j : Int) < n := by omega
                have hjr : j < pr.length := by rw [Hn.out]; exact hltj
                have hq0 := bt HQ.out hbr.out
                obtain ⟨rb, roff, rc, rd, rfl, -, hrb, hrc, -, hrx⟩ := RSl.at2 (HR.out.same (w' := wr) (.of_below hq0)) j hjr
                obtain ⟨la, lcap, rfl, -, -, -, hI⟩ := hrx.open
                have hsc := fstB_succ (c := (k : Int)) hjr
                rw [← hb.out] at hsc
                obtain ⟨mk, hmk⟩ : ∃ q, pr[j].marks = q := ⟨_, rfl⟩
                rw [hmk] at hrc hI hsc
                obtain ⟨L, hL⟩ : ∃ q, mk.length = q := ⟨_, rfl⟩
                cases b with
                | false =>
                  have Hsc : Hid (false = fstB pr (k : Int) (j + 1)) := Lib.hid (by rw [hsc, Bool.false_and])
                  rw [hL] at hrc
                  clear hsc hb hI hrx hmk hL hq0
                  go_wp2
                  exact ⟨⟨j + 1, false, by omega, by go_num, rfl, Hsc, hbr⟩, by simp [intOf]; omega⟩
                | true =>
                  cases hm : mk with
                  | nil =>
                    subst hm
                    have Hsc : Hid (false = fstB pr (k : Int) (j + 1)) := Lib.hid (by rw [hsc]; rfl)
                    obtain rfl : L = 0 := by rw [← hL]; rfl
                    simp only [List.length_nil] at hrc
                    clear hsc hb hI hrx hmk hL hq0
                    go_wp2
                    exact ⟨⟨j + 1, false, by omega, by go_num, rfl, Hsc, hbr⟩, by simp [intOf]; omega⟩
                  | cons z t =>
                    subst hm
                    have hLp : 0 < L := by rw [← hL]; simp
                    obtain ⟨lb, loff, lc, rfl, -, lbl, lcl, lhd⟩ := RSl.at1 hI 0 (by simp)
                    obtain ⟨rfl, -⟩ := lhd.open
                    simp only [List.getElem_cons_zero, Nat.add_zero] at lcl
                    rw [hL] at hrc
                    have hLI : (L : Int) > 0 := by omega
                    have hLJ : (0 : Int) < L := by omega
                    by_cases hz : z = (k : Int)
                    · have Hsc : Hid (true = fstB pr (k : Int) (j + 1)) := Lib.hid (by rw [hsc, hz]; simp)
                      have hze : (z == (k : Int)) = true := by simpa using hz
                      have hzf : ((k : Int) == (k : Int)) = true := by simp
                      clear hsc hb hI hrx hmk hL hq0 lhd
                      subst hz
                      go_wp2
                      exact ⟨⟨j + 1, true, by omega, by go_num, rfl, Hsc, hbr⟩, by simp [intOf]; omega⟩
                    · have Hsc : Hid (false = fstB pr (k : Int) (j + 1)) := Lib.hid (by rw [hsc]; simp [hz])
                      have hze : (z == (k : Int)) = false := by simpa using hz
                      clear hsc hb hI hrx hmk hL hq0 lhd hz
                      go_wp2
                      exact ⟨⟨j + 1, false, by omega, by go_num, rfl, Hsc, hbr⟩, by simp [intOf]; omega⟩
              · obtain rfl : n = j := by omega
                have hbw := hb.out
                have hwin : b = true → ∀ (h : 0 < el.length), el[0] = (k : Int) := fun e => HBF.out.win k hlt (by rw [Hn.out, ← hbw]; exact e)
                clear hbw hb hltj hj
                go_wp2
                clear p0 p1 p2 pl
                obtain ⟨w6, hw6⟩ : ∃ q, q = wr := ⟨_, rfl⟩
                rw [← hw6] at hbr ⊢
                clear hw6
                obtain ⟨o0, o1, o2, ol⟩ := box3 GO.out hbr.out
                have hS6 := Same.of_below (S := Any) hbr.out
                have hxl : (had.map whole).length = C := by rw [List.length_map]; exact HF.out.hlen
                obtain ⟨xb, xoff, xc, xd, xe, rfl, -, xl, x1, x2, x3, hx⟩ := RSl.at3 HX.out k (by omega)
                rw [whole_at, HBF.out.hf k hlt, Hfk.out] at hx
                have vx := (VRt.of hx).same (w' := w6) hS6
                obtain ⟨k1, j1, k2, j2, rfl, rfl, rfl, -, -⟩ := hx.open
                have hfb := HBF.out.fb k hlt
                rw [Hfk.out] at hfb
                have hVx := fun (W : World) (hW : Below w6.heap.size w6 W) => vx.same (.of_below hW)
                have hel0 : 0 < el.length := by rw [Hell.out]; omega
                obtain ⟨eb, eoff, ec, eeq, -, ebl, ecl, ehd⟩ := RSl.at1 (HEl.out.same hS6) 0 hel0
                subst eeq
                obtain ⟨rfl, -⟩ := ehd.open
                obtain ⟨e0v, he0⟩ : ∃ z, el[0] = z := ⟨_, rfl⟩
                rw [he0] at ecl
                have hwin2 : b = true → e0v = (k : Int) := fun h => by rw [← he0]; exact hwin h hel0
                simp only [Nat.add_zero] at ecl
                have hcl : ∀ W, Below w6.heap.size w6 W → (W.cell? ⟨xb, xoff + k * 3, none⟩ = some (.bool (whole (fk : Int)).neg) ∧ W.cell? ⟨xb, xoff + k * 3 + 1, none⟩ = some (.slice k1 (whole (fk : Int)).num.length j1) ∧ W.cell? ⟨xb, xoff + k * 3 + 2, none⟩ = some (.slice k2 (whole (fk : Int)).den.length j2) ∧ W.cell? ⟨w2.heap.size, 0, none⟩ = some (.slice (some ⟨eb, eoff, none⟩) 1 c21) ∧ W.cell? ⟨eb, eoff, none⟩ = some (.int .i64 e0v)) := fun W hW => by
                  have hs := Same.of_below (S := Any) hW
                  exact ⟨hs.cell trivial (hS6.cell trivial x1), hs.cell trivial (hS6.cell trivial x2), hs.cell trivial (hS6.cell trivial x3), hs.cell trivial o0, hs.cell trivial ecl⟩
                have HVx := Lib.hid hVx; have HCl := Lib.hid hcl; have Hfb := Lib.hid hfb
                clear hVx hcl vx hx x1 x2 x3 hS6 hxl hwin he0 ecl ehd ebl o0 o1 o2 ol xl hfb
                go_cut [123] from 56 to 123 (fun s123 wc => s123 = .bool false ∧ Below w6.heap.size w6 wc)
                case first =>
                  cases b with
                  | true =>
                    have hwk := hwin2 rfl
                    subst hwk
                    have g3 : ((k : Int) != (k : Int)) = false := by simp
                    clear hwin2
                    refine wp_region_held_drew (S := (fun w' => w'.cell? ⟨xb, xoff + k * 3, none⟩ = some (.bool (whole (fk : Int)).neg) ∧ w'.cell? ⟨xb, xoff + k * 3 + 1, none⟩ = some (.slice k1 (whole (fk : Int)).num.length j1) ∧ w'.cell? ⟨xb, xoff + k * 3 + 2, none⟩ = some (.slice k2 (whole (fk : Int)).den.length j2) ∧ w'.cell? ⟨w2.heap.size, 0, none⟩ = some (.slice (some ⟨eb, eoff, none⟩) 1 c21) ∧ w'.cell? ⟨eb, eoff, none⟩ = some (.int .i64 (k : Int)))) (by kernel_rfl) (HCl.out _ (Below.drew (Below.refl _ _))) (fun hHeld => ?_)
                    refine wpAnyH_take (i := 0) (v := ?_) rfl (by kernel_rfl) (by kernel_rfl) (by kernel_rfl) (fun _ _ _ h => h) (Or.inl ⟨by kernel_rfl, ?_⟩) hHeld ?_
                    rotate_left
                    · intro w hSw; (try dsimp only at hSw); go_simp; try (with_reducible rfl)
                    (try simp only [Act.put, List.getElem_toArray, List.getElem_cons_zero, List.getElem_cons_succ, List.setIfInBounds_toArray, List.set_cons_zero, List.set_cons_succ])
                    refine wpAnyH_take (i := 1) (v := ?_) rfl (by kernel_rfl) (by kernel_rfl) (by kernel_rfl) (fun _ _ _ h => h) (Or.inl ⟨by kernel_rfl, ?_⟩) hHeld ?_
                    rotate_left
                    · intro w hSw; (try dsimp only at hSw); go_simp; try (with_reducible rfl)
                    (try simp only [Act.put, List.getElem_toArray, List.getElem_cons_zero, List.getElem_cons_succ, List.setIfInBounds_toArray, List.set_cons_zero, List.set_cons_succ])
                    refine wpAnyH_take (i := 2) (v := ?_) rfl (by kernel_rfl) (by kernel_rfl) (by kernel_rfl) (fun _ _ _ h => h) (Or.inl ⟨by kernel_rfl, ?_⟩) hHeld ?_
                    rotate_left
                    · intro w hSw; (try dsimp only at hSw); go_simp; try (with_reducible rfl)
                    (try simp only [Act.put, List.getElem_toArray, List.getElem_cons_zero, List.getElem_cons_succ, List.setIfInBounds_toArray, List.set_cons_zero, List.set_cons_succ])
                    refine wpAnyH_take (i := 3) (v := ?_) rfl (by kernel_rfl) (by kernel_rfl) (by kernel_rfl) (fun _ _ _ h => h) (Or.inl ⟨by kernel_rfl, ?_⟩) hHeld ?_
                    rotate_left
                    · intro w hSw; (try dsimp only at hSw); go_simp; try (with_reducible rfl)
                    (try simp only [Act.put, List.getElem_toArray, List.getElem_cons_zero, List.getElem_cons_succ, List.setIfInBounds_toArray, List.set_cons_zero, List.set_cons_succ])
                    refine wpAnyH_take (i := 4) (v := ?_) rfl (by kernel_rfl) (by kernel_rfl) (by kernel_rfl) (fun _ _ _ h => h) (Or.inl ⟨by kernel_rfl, ?_⟩) hHeld ?_
                    rotate_left
                    · intro w hSw; (try dsimp only at hSw); go_simp; try (with_reducible rfl)
                    (try simp only [Act.put, List.getElem_toArray, List.getElem_cons_zero, List.getElem_cons_succ, List.setIfInBounds_toArray, List.set_cons_zero, List.set_cons_succ])
                    refine wpAnyH_ready (rs := [5]) (by kernel_rfl) (by simp) ?_
                    refine AllReadyH.cons rfl (fun K hK => ?_) AllReadyH.nil
                    go_simp; go_at_call 29; refine (r4Whole fk _ (by have := Hfb.out; omega)).mono ?_; rintro e w7 ⟨u1, m1, u2, m2, rfl, kk1, kk2, hb7⟩; have hbw7 : Below w6.heap.size w6 w7 := (Below.drew (Below.refl _ _)).trans hb7; have VW := Lib.hid (whole_of kk1 kk2); clear kk1 kk2
                    refine hK.out _ _ (HCl.out _ hbw7) (fun hHeld => ?_)
                    clear hK K
                    (try simp only [Act.put, List.getElem_toArray, List.getElem_cons_zero, List.getElem_cons_succ, List.setIfInBounds_toArray, List.set_cons_zero, List.set_cons_succ])
                    refine wpAnyH_ready (rs := [6]) (by kernel_rfl) (by simp) ?_
                    refine AllReadyH.cons rfl (fun K hK => ?_) AllReadyH.nil
                    go_simp; go_at_call 28; refine (whole_same rfl (HVx.out w7 hbw7) VW.out).mono ?_; rintro e w8 ⟨rfl, hb8⟩; have hbw8 : Below w6.heap.size w6 w8 := bt hbw7 hb8
                    refine hK.out _ _ (HCl.out _ hbw8) (fun hHeld => ?_)
                    clear hK K
                    (try simp only [Act.put, List.getElem_toArray, List.getElem_cons_zero, List.getElem_cons_succ, List.setIfInBounds_toArray, List.set_cons_zero, List.set_cons_succ])
                    refine wpAnyH_take (i := 7) (v := ?_) rfl (by kernel_rfl) (by kernel_rfl) (by kernel_rfl) (fun _ _ _ h => h) (Or.inl ⟨by kernel_rfl, ?_⟩) hHeld ?_
                    rotate_left
                    · intro w hSw; (try dsimp only at hSw); go_simp; try (with_reducible rfl)
                    (try simp only [Act.put, List.getElem_toArray, List.getElem_cons_zero, List.getElem_cons_succ, List.setIfInBounds_toArray, List.set_cons_zero, List.set_cons_succ])
                    refine wpAnyH_take (i := 8) (v := ?_) rfl (by kernel_rfl) (by kernel_rfl) (by kernel_rfl) (fun _ _ _ h => h) (Or.inl ⟨by kernel_rfl, ?_⟩) hHeld ?_
                    rotate_left
                    · intro w hSw; (try dsimp only at hSw); go_simp; try (with_reducible rfl)
                    (try simp only [Act.put, List.getElem_toArray, List.getElem_cons_zero, List.getElem_cons_succ, List.setIfInBounds_toArray, List.set_cons_zero, List.set_cons_succ])
                    refine wpAnyH_take (i := 9) (v := ?_) rfl (by kernel_rfl) (by kernel_rfl) (by kernel_rfl) (fun _ _ _ h => h) (Or.inl ⟨by kernel_rfl, ?_⟩) hHeld ?_
                    rotate_left
                    · intro w hSw; (try dsimp only at hSw); go_simp; try (with_reducible rfl)
                    (try simp only [Act.put, List.getElem_toArray, List.getElem_cons_zero, List.getElem_cons_succ, List.setIfInBounds_toArray, List.set_cons_zero, List.set_cons_succ])
                    refine wpAnyH_take (i := 10) (v := ?_) rfl (by kernel_rfl) (by kernel_rfl) (by kernel_rfl) (fun _ _ _ h => h) (Or.inl ⟨by kernel_rfl, ?_⟩) hHeld ?_
                    rotate_left
                    · intro w hSw; (try dsimp only at hSw); go_simp; try (with_reducible rfl)
                    (try simp only [Act.put, List.getElem_toArray, List.getElem_cons_zero, List.getElem_cons_succ, List.setIfInBounds_toArray, List.set_cons_zero, List.set_cons_succ])
                    refine wpAnyH_take (i := 11) (v := ?_) rfl (by kernel_rfl) (by kernel_rfl) (by kernel_rfl) (fun _ _ _ h => h) (Or.inl ⟨by kernel_rfl, ?_⟩) hHeld ?_
                    rotate_left
                    · intro w hSw; (try dsimp only at hSw); go_simp; try (with_reducible rfl)
                    (try simp only [Act.put, List.getElem_toArray, List.getElem_cons_zero, List.getElem_cons_succ, List.setIfInBounds_toArray, List.set_cons_zero, List.set_cons_succ])
                    refine wpAnyH_take (i := 12) (v := ?_) rfl (by kernel_rfl) (by kernel_rfl) (by kernel_rfl) (fun _ _ _ h => h) (Or.inl ⟨by kernel_rfl, ?_⟩) hHeld ?_
                    rotate_left
                    · intro w hSw; (try dsimp only at hSw); go_simp; try (with_reducible rfl)
                    (try simp only [Act.put, List.getElem_toArray, List.getElem_cons_zero, List.getElem_cons_succ, List.setIfInBounds_toArray, List.set_cons_zero, List.set_cons_succ])
                    refine wpAnyH_take (i := 13) (v := ?_) rfl (by kernel_rfl) (by kernel_rfl) (by kernel_rfl) (fun _ _ _ h => h) (Or.inl ⟨by kernel_rfl, ?_⟩) hHeld ?_
                    rotate_left
                    · intro w hSw; (try dsimp only at hSw); go_simp; try (with_reducible rfl)
                    (try simp only [Act.put, List.getElem_toArray, List.getElem_cons_zero, List.getElem_cons_succ, List.setIfInBounds_toArray, List.set_cons_zero, List.set_cons_succ])
                    refine wpAnyH_take (i := 14) (v := ?_) rfl (by kernel_rfl) (by kernel_rfl) (by kernel_rfl) (fun _ _ _ h => h) (Or.inl ⟨by kernel_rfl, ?_⟩) hHeld ?_
                    rotate_left
                    · intro w hSw; (try dsimp only at hSw); go_simp; try (with_reducible rfl)
                    (try simp only [Act.put, List.getElem_toArray, List.getElem_cons_zero, List.getElem_cons_succ, List.setIfInBounds_toArray, List.set_cons_zero, List.set_cons_succ])
                    refine wpAnyH_take (i := 15) (v := ?_) rfl (by kernel_rfl) (by kernel_rfl) (by kernel_rfl) (fun _ _ _ h => h) (Or.inl ⟨by kernel_rfl, ?_⟩) hHeld ?_
                    rotate_left
                    · intro w hSw; (try dsimp only at hSw); go_simp; try (with_reducible rfl)
                    (try simp only [Act.put, List.getElem_toArray, List.getElem_cons_zero, List.getElem_cons_succ, List.setIfInBounds_toArray, List.set_cons_zero, List.set_cons_succ])
                    refine wpAnyH_take (i := 16) (v := ?_) rfl (by kernel_rfl) (by kernel_rfl) (by kernel_rfl) (fun _ _ _ h => h) (Or.inl ⟨by kernel_rfl, ?_⟩) hHeld ?_
                    rotate_left
                    · intro w hSw; (try dsimp only at hSw); go_simp; try (with_reducible rfl)
                    (try simp only [Act.put, List.getElem_toArray, List.getElem_cons_zero, List.getElem_cons_succ, List.setIfInBounds_toArray, List.set_cons_zero, List.set_cons_succ])
                    refine wpAnyH_take (i := 17) (v := ?_) rfl (by kernel_rfl) (by kernel_rfl) (by kernel_rfl) (fun _ _ _ h => h) (Or.inl ⟨by kernel_rfl, ?_⟩) hHeld ?_
                    rotate_left
                    · intro w hSw; (try dsimp only at hSw); go_simp; try (with_reducible rfl)
                    (try simp only [Act.put, List.getElem_toArray, List.getElem_cons_zero, List.getElem_cons_succ, List.setIfInBounds_toArray, List.set_cons_zero, List.set_cons_succ])
                    refine wpAnyH_take (i := 18) (v := ?_) rfl (by kernel_rfl) (by kernel_rfl) (by kernel_rfl) (fun _ _ _ h => h) (Or.inl ⟨by kernel_rfl, ?_⟩) hHeld ?_
                    rotate_left
                    · intro w hSw; (try dsimp only at hSw); go_simp; try (with_reducible rfl)
                    (try simp only [Act.put, List.getElem_toArray, List.getElem_cons_zero, List.getElem_cons_succ, List.setIfInBounds_toArray, List.set_cons_zero, List.set_cons_succ])
                    refine wpAnyH_done (by kernel_rfl) ?_ _
                    go_wp2_with fail
                    go_meet
                    exact ⟨rfl, hbw8⟩
                  | false =>
                    clear hwin2
                    refine wp_region_held_drew (S := (fun w' => w'.cell? ⟨xb, xoff + k * 3, none⟩ = some (.bool (whole (fk : Int)).neg) ∧ w'.cell? ⟨xb, xoff + k * 3 + 1, none⟩ = some (.slice k1 (whole (fk : Int)).num.length j1) ∧ w'.cell? ⟨xb, xoff + k * 3 + 2, none⟩ = some (.slice k2 (whole (fk : Int)).den.length j2) ∧ w'.cell? ⟨w2.heap.size, 0, none⟩ = some (.slice (some ⟨eb, eoff, none⟩) 1 c21) ∧ w'.cell? ⟨eb, eoff, none⟩ = some (.int .i64 e0v))) (by kernel_rfl) (HCl.out _ (Below.drew (Below.refl _ _))) (fun hHeld => ?_)
                    refine wpAnyH_take (i := 0) (v := ?_) rfl (by kernel_rfl) (by kernel_rfl) (by kernel_rfl) (fun _ _ _ h => h) (Or.inl ⟨by kernel_rfl, ?_⟩) hHeld ?_
                    rotate_left
                    · intro w hSw; (try dsimp only at hSw); go_simp; try (with_reducible rfl)
                    (try simp only [Act.put, List.getElem_toArray, List.getElem_cons_zero, List.getElem_cons_succ, List.setIfInBounds_toArray, List.set_cons_zero, List.set_cons_succ])
                    refine wpAnyH_take (i := 1) (v := ?_) rfl (by kernel_rfl) (by kernel_rfl) (by kernel_rfl) (fun _ _ _ h => h) (Or.inl ⟨by kernel_rfl, ?_⟩) hHeld ?_
                    rotate_left
                    · intro w hSw; (try dsimp only at hSw); go_simp; try (with_reducible rfl)
                    (try simp only [Act.put, List.getElem_toArray, List.getElem_cons_zero, List.getElem_cons_succ, List.setIfInBounds_toArray, List.set_cons_zero, List.set_cons_succ])
                    refine wpAnyH_take (i := 2) (v := ?_) rfl (by kernel_rfl) (by kernel_rfl) (by kernel_rfl) (fun _ _ _ h => h) (Or.inl ⟨by kernel_rfl, ?_⟩) hHeld ?_
                    rotate_left
                    · intro w hSw; (try dsimp only at hSw); go_simp; try (with_reducible rfl)
                    (try simp only [Act.put, List.getElem_toArray, List.getElem_cons_zero, List.getElem_cons_succ, List.setIfInBounds_toArray, List.set_cons_zero, List.set_cons_succ])
                    refine wpAnyH_take (i := 3) (v := ?_) rfl (by kernel_rfl) (by kernel_rfl) (by kernel_rfl) (fun _ _ _ h => h) (Or.inl ⟨by kernel_rfl, ?_⟩) hHeld ?_
                    rotate_left
                    · intro w hSw; (try dsimp only at hSw); go_simp; try (with_reducible rfl)
                    (try simp only [Act.put, List.getElem_toArray, List.getElem_cons_zero, List.getElem_cons_succ, List.setIfInBounds_toArray, List.set_cons_zero, List.set_cons_succ])
                    refine wpAnyH_take (i := 4) (v := ?_) rfl (by kernel_rfl) (by kernel_rfl) (by kernel_rfl) (fun _ _ _ h => h) (Or.inl ⟨by kernel_rfl, ?_⟩) hHeld ?_
                    rotate_left
                    · intro w hSw; (try dsimp only at hSw); go_simp; try (with_reducible rfl)
                    (try simp only [Act.put, List.getElem_toArray, List.getElem_cons_zero, List.getElem_cons_succ, List.setIfInBounds_toArray, List.set_cons_zero, List.set_cons_succ])
                    refine wpAnyH_ready (rs := [5]) (by kernel_rfl) (by simp) ?_
                    refine AllReadyH.cons rfl (fun K hK => ?_) AllReadyH.nil
                    go_simp; go_at_call 29; refine (r4Whole fk _ (by have := Hfb.out; omega)).mono ?_; rintro e w7 ⟨u1, m1, u2, m2, rfl, kk1, kk2, hb7⟩; have hbw7 : Below w6.heap.size w6 w7 := (Below.drew (Below.refl _ _)).trans hb7; have VW := Lib.hid (whole_of kk1 kk2); clear kk1 kk2
                    refine hK.out _ _ (HCl.out _ hbw7) (fun hHeld => ?_)
                    clear hK K
                    (try simp only [Act.put, List.getElem_toArray, List.getElem_cons_zero, List.getElem_cons_succ, List.setIfInBounds_toArray, List.set_cons_zero, List.set_cons_succ])
                    refine wpAnyH_ready (rs := [6]) (by kernel_rfl) (by simp) ?_
                    refine AllReadyH.cons rfl (fun K hK => ?_) AllReadyH.nil
                    go_simp; go_at_call 28; refine (whole_same rfl (HVx.out w7 hbw7) VW.out).mono ?_; rintro e w8 ⟨rfl, hb8⟩; have hbw8 : Below w6.heap.size w6 w8 := bt hbw7 hb8
                    refine hK.out _ _ (HCl.out _ hbw8) (fun hHeld => ?_)
                    clear hK K
                    (try simp only [Act.put, List.getElem_toArray, List.getElem_cons_zero, List.getElem_cons_succ, List.setIfInBounds_toArray, List.set_cons_zero, List.set_cons_succ])
                    refine wpAnyH_take (i := 7) (v := ?_) rfl (by kernel_rfl) (by kernel_rfl) (by kernel_rfl) (fun _ _ _ h => h) (Or.inl ⟨by kernel_rfl, ?_⟩) hHeld ?_
                    rotate_left
                    · intro w hSw; (try dsimp only at hSw); go_simp; try (with_reducible rfl)
                    (try simp only [Act.put, List.getElem_toArray, List.getElem_cons_zero, List.getElem_cons_succ, List.setIfInBounds_toArray, List.set_cons_zero, List.set_cons_succ])
                    refine wpAnyH_take (i := 8) (v := ?_) rfl (by kernel_rfl) (by kernel_rfl) (by kernel_rfl) (fun _ _ _ h => h) (Or.inl ⟨by kernel_rfl, ?_⟩) hHeld ?_
                    rotate_left
                    · intro w hSw; (try dsimp only at hSw); go_simp; try (with_reducible rfl)
                    (try simp only [Act.put, List.getElem_toArray, List.getElem_cons_zero, List.getElem_cons_succ, List.setIfInBounds_toArray, List.set_cons_zero, List.set_cons_succ])
                    refine wpAnyH_take (i := 9) (v := ?_) rfl (by kernel_rfl) (by kernel_rfl) (by kernel_rfl) (fun _ _ _ h => h) (Or.inl ⟨by kernel_rfl, ?_⟩) hHeld ?_
                    rotate_left
                    · intro w hSw; (try dsimp only at hSw); go_simp; try (with_reducible rfl)
                    (try simp only [Act.put, List.getElem_toArray, List.getElem_cons_zero, List.getElem_cons_succ, List.setIfInBounds_toArray, List.set_cons_zero, List.set_cons_succ])
                    refine wpAnyH_take (i := 10) (v := ?_) rfl (by kernel_rfl) (by kernel_rfl) (by kernel_rfl) (fun _ _ _ h => h) (Or.inl ⟨by kernel_rfl, ?_⟩) hHeld ?_
                    rotate_left
                    · intro w hSw; (try dsimp only at hSw); go_simp; try (with_reducible rfl)
                    (try simp only [Act.put, List.getElem_toArray, List.getElem_cons_zero, List.getElem_cons_succ, List.setIfInBounds_toArray, List.set_cons_zero, List.set_cons_succ])
                    refine wpAnyH_take (i := 11) (v := undef) rfl (by kernel_rfl) (by kernel_rfl) (by kernel_rfl) (fun _ _ _ h => h) (Or.inr ⟨by kernel_rfl, rfl⟩) hHeld ?_
                    (try simp only [Act.put, List.getElem_toArray, List.getElem_cons_zero, List.getElem_cons_succ, List.setIfInBounds_toArray, List.set_cons_zero, List.set_cons_succ])
                    refine wpAnyH_take (i := 12) (v := undef) rfl (by kernel_rfl) (by kernel_rfl) (by kernel_rfl) (fun _ _ _ h => h) (Or.inr ⟨by kernel_rfl, rfl⟩) hHeld ?_
                    (try simp only [Act.put, List.getElem_toArray, List.getElem_cons_zero, List.getElem_cons_succ, List.setIfInBounds_toArray, List.set_cons_zero, List.set_cons_succ])
                    refine wpAnyH_take (i := 13) (v := undef) rfl (by kernel_rfl) (by kernel_rfl) (by kernel_rfl) (fun _ _ _ h => h) (Or.inr ⟨by kernel_rfl, rfl⟩) hHeld ?_
                    (try simp only [Act.put, List.getElem_toArray, List.getElem_cons_zero, List.getElem_cons_succ, List.setIfInBounds_toArray, List.set_cons_zero, List.set_cons_succ])
                    refine wpAnyH_take (i := 14) (v := undef) rfl (by kernel_rfl) (by kernel_rfl) (by kernel_rfl) (fun _ _ _ h => h) (Or.inr ⟨by kernel_rfl, rfl⟩) hHeld ?_
                    (try simp only [Act.put, List.getElem_toArray, List.getElem_cons_zero, List.getElem_cons_succ, List.setIfInBounds_toArray, List.set_cons_zero, List.set_cons_succ])
                    refine wpAnyH_take (i := 15) (v := undef) rfl (by kernel_rfl) (by kernel_rfl) (by kernel_rfl) (fun _ _ _ h => h) (Or.inr ⟨by kernel_rfl, rfl⟩) hHeld ?_
                    (try simp only [Act.put, List.getElem_toArray, List.getElem_cons_zero, List.getElem_cons_succ, List.setIfInBounds_toArray, List.set_cons_zero, List.set_cons_succ])
                    refine wpAnyH_take (i := 16) (v := undef) rfl (by kernel_rfl) (by kernel_rfl) (by kernel_rfl) (fun _ _ _ h => h) (Or.inr ⟨by kernel_rfl, rfl⟩) hHeld ?_
                    (try simp only [Act.put, List.getElem_toArray, List.getElem_cons_zero, List.getElem_cons_succ, List.setIfInBounds_toArray, List.set_cons_zero, List.set_cons_succ])
                    refine wpAnyH_take (i := 17) (v := ?_) rfl (by kernel_rfl) (by kernel_rfl) (by kernel_rfl) (fun _ _ _ h => h) (Or.inl ⟨by kernel_rfl, ?_⟩) hHeld ?_
                    rotate_left
                    · intro w hSw; (try dsimp only at hSw); go_simp; try (with_reducible rfl)
                    (try simp only [Act.put, List.getElem_toArray, List.getElem_cons_zero, List.getElem_cons_succ, List.setIfInBounds_toArray, List.set_cons_zero, List.set_cons_succ])
                    refine wpAnyH_take (i := 18) (v := ?_) rfl (by kernel_rfl) (by kernel_rfl) (by kernel_rfl) (fun _ _ _ h => h) (Or.inl ⟨by kernel_rfl, ?_⟩) hHeld ?_
                    rotate_left
                    · intro w hSw; (try dsimp only at hSw); go_simp; try (with_reducible rfl)
                    (try simp only [Act.put, List.getElem_toArray, List.getElem_cons_zero, List.getElem_cons_succ, List.setIfInBounds_toArray, List.set_cons_zero, List.set_cons_succ])
                    refine wpAnyH_done (by kernel_rfl) ?_ _
                    go_wp2_with fail
                    go_meet
                    exact ⟨rfl, hbw8⟩
                case rest =>
                  obtain ⟨rfl, hbw8⟩ := hcut
                  have HB8 := Lib.hid (bt hbr.out hbw8)
                  clear hbw8 hwin2
                  go_wp2
                  exact ⟨⟨k + 1, by omega, by go_num, HB8⟩, by simp [intOf]; omega⟩
      · obtain rfl : C = k := by omega
        go_wp2_with (go_at_call 12; refine (wakes11 _).mono ?_; rintro e w7 ⟨rfl, hb⟩)
        go_ret
        exact ⟨rfl, bt Hb0.out (bt HQ.out (bt hbr.out hb))⟩
  · have hm' : mayS 3 p 1 lot = false := by simpa using hm
    rw [hm', hW0] at hMay
    obtain ⟨cc, hcc⟩ : ∃ x, p.cands = x := ⟨_, rfl⟩
    obtain ⟨kk, hkk⟩ : ∃ x, p.kind = x := ⟨_, rfl⟩
    obtain ⟨nl, hnl⟩ : ∃ x, lot.length = x := ⟨_, rfl⟩
    rw [hcc, hkk, hnl] at hMay
    rw [hcc, hkk] at hW0
    rw [hcc, hkk, hnl]
    have HM := Lib.hid hMay; have Hb0 := Lib.hid hb0; have HW0 := Lib.hid hW0
    clear hMay hb0 hW0 hP hL h h1 hv hm hm' hg0 hcc hkk hnl
    go_enter Tryz.func4, Tryz.ntmps4
    go_wp2_with (first
      | (go_at_call 25; refine HM.out.mono ?_; rintro e w1 ⟨rfl, hb⟩; rw [← HW0.out] at hb; have hq := bt Hb0.out hb; clear hb)
      | (go_at_call 12; refine (wakes11 _).mono ?_; rintro e w2 ⟨rfl, hb⟩))
    go_ret
    exact ⟨rfl, bt hq hb⟩
end Go.Proofs.YtogngcbflhdadaaGreat

namespace Go.Proofs.YtogngcbflhdadaaGreat
open Go Go.RowKit Go.ChangeShapes Go.WideShapes Go.ChangeAt

set_option maxRecDepth 100000 in
theorem singleBorda_lifted (os : Os) (started : os.Started) (H : Type) (enc : TypeId × Value → H) :
    ReturnsInHanded {} Tryz.checked os 4 .any (Rows.singleBordaSpec.pre6 enc Tryz.prog Tryz.f4 Rows.singleBordaRow.domain false) (Rows.singleBordaSpec.post enc Tryz.prog Tryz.f4 false true false false) := by
  refine returnsInHanded_of_change_sized (C := Tryz.checked) Tryz.own started (by kernel_rfl) Tryz.func4
    (ChangeSpec.witness6 (enc := enc) (C := Tryz.checked) false ⟨#[], #[.agg #[.int .i64 0, .int .u8 0, .slice none 0 0], .slice none 0 0], []⟩ 8 (by kernel_rfl) (by kernel_rfl) (by kernel_rfl) (by kernel_rfl)) ?_
  intro W base args ds gs before hval0 hW hcnd hsz0 _
  have hval : ∀ (j : Nat) t v, Tryz.f4.params[j]? = some t → args[j]? = some v → Value.okWide Tryz.prog W .any base t v := hval0
  have hsz : (DataW.weightsEach Tryz.prog (Tryz.f4.params.toList ++ Rows.singleBordaSpec.plain.varTypes Tryz.prog) (ds ++ gs)).all (· ≤ reachBytes) = true := hsz0
  have hW' := hW
  obtain ⟨p, q, hA0, hV, rfl, hfz, hnd⟩ := hW
  have hA : DataW.TrodAll enc Tryz.prog W 0 (fun _ => true) true Tryz.f4.params.toList args.toList ds p := hA0
  rw [Tryz.params4] at hA hval hsz
  obtain ⟨v0, vs0, d0, ds0, p0, q0, hargs, rfl, rfl, h0, r0⟩ := trodAll_cons hA
  obtain ⟨v1, vs1, d1, ds1, p1, q1, rfl, rfl, rfl, h1, r1⟩ := trodAll_cons r0
  obtain ⟨rfl, rfl, rfl⟩ := trodAll_nil r1
  obtain rfl : args = #[v0, v1] := by cases args; simp_all
  obtain ⟨rfl, rfl⟩ := trodVars_none hV
  have k0 := h0
  have k1 := h1
  have lt0 : ∀ x ∈ p0, x.block < W.heap.size := by obtain ⟨m, hm⟩ := k0; exact DataW.trod_lt m _ _ _ hm
  have lt1 : ∀ x ∈ p1, x.block < W.heap.size := by obtain ⟨m, hm⟩ := k1; exact DataW.trod_lt m _ _ _ hm
  obtain ⟨x0, y0⟩ := arg_prof (hval 0 _ v0 rfl rfl) h0 (weights_at hsz 0 rfl rfl)
  obtain ⟨x1, y1⟩ := arg_ints (hval 1 _ v1 rfl rfl) h1 (weights_at hsz 1 rfl rfl)
  clear hA0 hval0
  refine (law_sbor v0 v1 x0 x1 W y0 y1).mono fun e W' ⟨he, bel⟩ => ?_
  subst he
  exact ⟨_, rfl, _, _, _, [], _, [], hW', trodAll_mk1 (shut_bool Tryz.underlying4 _), (trodAll_cons_mk (Below.trod Tryz.laidOut (by kernel_rfl) (of_decide_eq_true (by kernel_rfl)) k0 bel lt0) (trodAll_cons_mk (Below.trod Tryz.laidOut (by kernel_rfl) (of_decide_eq_true (by kernel_rfl)) k1 bel lt1) trodAll_mk0)), rfl, bel.frame _, fun h => by cases h⟩

theorem singleBorda_named : Tryz.prog.funcNamed Rows.singleBordaRow.func = some 4 := by kernel_rfl
theorem singleBorda_facts : joinedFacts Tryz.prog 4 Tryz.f4 Rows.singleBordaSpec Rows.singleBordaRow = true := by kernel_rfl
theorem singleBorda_inst : Tryz.f4.isInstance Tryz.prog Rows.singleBordaRow.origin Rows.singleBordaRow.targs := of_decide_eq_true (by kernel_rfl)
theorem singleBorda_wrap : Tryz.f4.isWrapper Tryz.prog Rows.singleBordaRow.wrapper Rows.singleBordaRow.mainSum := by
  unfold Func.isWrapper
  rw [if_neg (of_decide_eq_false (by kernel_rfl))]
  exact ⟨rfl, rfl⟩
theorem singleBorda_holds : Rows.SingleBordaSaid :=
  OpenClaim.holds_of_wide 4 Tryz.f4 rfl rfl rfl rfl rfl rfl rfl ⟨rfl, rfl, rfl, rfl, rfl⟩ rfl rfl rfl rfl rfl singleBorda_named Tryz.func4 singleBorda_facts
    singleBorda_inst singleBorda_wrap
    (fun os started H enc _ => singleBorda_lifted os started H enc)
#print axioms singleBorda_holds
end Go.Proofs.YtogngcbflhdadaaGreat
