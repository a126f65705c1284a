/- Texts of one claim, put together: LawSTells, LawSH, LawSI, SeatP, RatW, LawSJ, SumP. -/
import Derived.Test.YtogngcbflhdadaaGreatCGSam
import Derived.Test.YtogngcbflhdadaaGreatCGRul
import Derived.Test.YtogngcbflhdadaaGreatCGOne
import Derived.Test.YtogngcbflhdadaaGreatCGRat

/- The law SingleTells: its walk (printed by gentells11.py). -/
namespace Go.Proofs.YtogngcbflhdadaaGreat
open Go Go.RowKit Go.Shelf

theorem VProf.open {S : Nat → Prop} {w : World} {v : Value} {p : Prof} (h : VProf S w v p) : ∃ a m c, v = .agg #[.int .i64 p.cands, .int .u8 p.kind, .slice a m c] := by
  obtain ⟨a, c, rfl, -⟩ := h; exact ⟨a, _, c, rfl⟩
theorem GivesP.open {p : Prof} {w : World} {e : Ending} {w' : World} (h : GivesP p w e w') : ∃ a m c, e = .returned (.agg #[.int .i64 p.cands, .int .u8 p.kind, .slice a m c]) ∧ VProf Any w' (.agg #[.int .i64 p.cands, .int .u8 p.kind, .slice a m c]) p ∧ Below w.heap.size w w' := by
  obtain ⟨v, rfl, h1, h2⟩ := h
  obtain ⟨a, m, c, rfl⟩ := h1.open
  exact ⟨a, m, c, rfl, h1.mono fun _ _ => trivial, h2⟩
end Go.Proofs.YtogngcbflhdadaaGreat

/- The helpers of chapter 11's laws: kind, may, count, had. -/
namespace Go.Proofs.YtogngcbflhdadaaGreat
open Go Go.RowKit Go.Shelf

set_option maxHeartbeats 1000000 in
theorem l11Kind (rule : Nat) (hr : rule < 4) (w : World) : Calls Tryz.prog 56 #[.int .i64 rule] w fun e w' => e = .returned (.int .u8 (kindL rule)) ∧ Below w.heap.size w w' := by
  obtain rfl | rfl | rfl | rfl : rule = 0 ∨ rule = 1 ∨ rule = 2 ∨ rule = 3 := by omega
  · have i0 : ∀ w, (Instr.index 122 (.agg #[.int .u8 2, .int .u8 2, .int .u8 3, .int .u8 1]) (.int .i64 0)).run Tryz.prog w = .ok (.int .u8 2) w := fun _ => by kernel_rfl
    go_enter Tryz.func56, Tryz.ntmps56
    go_wp2
    go_ret
    exact ⟨rfl, Below.refl _ _⟩
  · have i0 : ∀ w, (Instr.index 122 (.agg #[.int .u8 2, .int .u8 2, .int .u8 3, .int .u8 1]) (.int .i64 1)).run Tryz.prog w = .ok (.int .u8 2) w := fun _ => by kernel_rfl
    go_enter Tryz.func56, Tryz.ntmps56
    go_wp2
    go_ret
    exact ⟨rfl, Below.refl _ _⟩
  · have i0 : ∀ w, (Instr.index 122 (.agg #[.int .u8 2, .int .u8 2, .int .u8 3, .int .u8 1]) (.int .i64 2)).run Tryz.prog w = .ok (.int .u8 3) w := fun _ => by kernel_rfl
    go_enter Tryz.func56, Tryz.ntmps56
    go_wp2
    go_ret
    exact ⟨rfl, Below.refl _ _⟩
  · have i0 : ∀ w, (Instr.index 122 (.agg #[.int .u8 2, .int .u8 2, .int .u8 3, .int .u8 1]) (.int .i64 3)).run Tryz.prog w = .ok (.int .u8 1) w := fun _ => by kernel_rfl
    go_enter Tryz.func56, Tryz.ntmps56
    go_wp2
    go_ret
    exact ⟨rfl, Below.refl _ _⟩
/-- Whether a law's count is valid. -/
def mayS (rule : Int) (p : Prof) (seats : Int) (lot : List Int) : Bool := decide (0 ≤ rule) && (decide (rule < 4) && decide (singleI rule.toNat p seats lot = 0))
theorem mayS_true {rule : Int} {p : Prof} {seats : Int} {lot : List Int} (h : mayS rule p seats lot = true) : ∃ r : Nat, rule = (r : Int) ∧ r < 4 ∧ singleI r p seats lot = 0 := by
  simp only [mayS, Bool.and_eq_true, decide_eq_true_eq] at h
  exact ⟨rule.toNat, by omega, by omega, h.2.2⟩
set_option maxHeartbeats 2000000 in
set_option maxRecDepth 100000 in
theorem l11May (S T : Nat → Prop) (rule : Int) (u v : Value) (p : Prof) (seats : Int) (lot : List Int) (w : World) (h : VProf S w u p) (hv : RInts T w v lot) :
    Calls Tryz.prog 25 #[.int .i64 rule, u, .int .i64 seats, v] w fun e w' => e = .returned (.bool (mayS rule p seats lot)) ∧ Below w.heap.size w w' := by
  have h1 := h
  obtain ⟨a, m, c, rfl⟩ := h.open
  obtain ⟨a2, m2, c2, rfl⟩ := RSl.slice hv
  obtain ⟨W0, hW0⟩ : ∃ W0, W0 = w.alloc (.cells #[.int .i64 p.cands, .int .u8 p.kind, .slice a m c] 24) := ⟨_, rfl⟩
  have hb0 : Below w.heap.size w W0 := by rw [hW0]; exact below_new w _
  have hg0 : W0.heap[w.heap.size]? = some (.cells #[.int .i64 p.cands, .int .u8 p.kind, .slice a m c] 24 (0, 0)) := by rw [hW0]; exact box_new w _
  obtain ⟨g0, g1, g2, -⟩ := box3 hg0 (Below.refl _ _)
  by_cases hr0 : 0 ≤ rule
  · by_cases hr4 : rule < 4
    · obtain ⟨r, rfl⟩ : ∃ r : Nat, rule = (r : Int) := ⟨rule.toNat, by omega⟩
      have hI : mayS (r : Int) p seats lot = ((singleI r p seats lot) == 0) := by
        rw [mayS, decide_eq_true hr0, decide_eq_true hr4, Bool.true_and, Bool.true_and, Int.toNat_natCast]
        rw [Bool.eq_iff_iff]; simp
      rw [hI]
      have hM := fun (q : Ex) => r11May S T _ _ p (kindL r) seats p.cands lot (ext W0 q) ((h1.same (.of_below hb0)).same (.of_below (below_ext W0 q))) ((hv.same (.of_below hb0)).same (.of_below (below_ext W0 q)))
      have hS : countI p (kindL r) seats p.cands lot = singleI r p seats lot := rfl
      simp only [hS] at hM
      have hK := fun (q : Ex) => l11Kind r (by omega) (ext W0 q)
      obtain ⟨cc, hcc⟩ : ∃ x, p.cands = x := ⟨_, rfl⟩
      obtain ⟨kk, hkk⟩ : ∃ x, p.kind = x := ⟨_, rfl⟩
      obtain ⟨I, hII⟩ : ∃ I, singleI r p seats lot = I := ⟨_, rfl⟩
      obtain ⟨K, hKK⟩ : ∃ I, kindL r = I := ⟨_, rfl⟩
      simp only [hcc, hkk, hII, hKK] at hW0 hM hK g0 g1 g2 ⊢
      have e0 := fun q => cell_ext (w := W0) g0 q
      have e1 := fun q => cell_ext (w := W0) g1 q
      have e2 := fun q => cell_ext (w := W0) g2 q
      have HM := Lib.hid hM; have HK := Lib.hid hK; have HW0 := Lib.hid hW0; have Hb0 := Lib.hid hb0
      have hge : (r : Int) ≥ 0 := by omega
      clear hM hK hW0 hb0 hg0 g0 g1 g2 h h1 hv hI hS hcc hkk hII hKK
      go_enter Tryz.func25, Tryz.ntmps25
      go_wp2
      rw [← HW0.out]
      clear HW0
      refine wp_region_ext (by kernel_rfl) (by kernel_rfl) ?_
      repeat (go_big_quiet_step ((first
        | (go_at_call 56; have hh := HK.out; exact calls_ext (v := .int .u8 K) (hh _))
        | (go_at_call 48; have hh := HM.out; exact calls_ext (v := .int .i64 I) (hh _)))))
      refine wpQuiet_nil ?_
      intro w2 hw'
      have hb12 : Below W0.heap.size W0 w2 := by obtain ⟨q, rfl⟩ := hw'; exact below_ext W0 q
      clear hw' e0 e1 e2 HM HK
      go_wp2
      go_ret
      exact ⟨rfl, bt Hb0.out hb12⟩
    · have hI : mayS rule p seats lot = false := by rw [mayS, decide_eq_false hr4, Bool.false_and, Bool.and_false]
      have d0 : decide (0 ≤ rule) = true := decide_eq_true hr0
      have d1 : decide (rule < 4) = false := decide_eq_false hr4
      rw [hI]
      have Hb0 := Lib.hid hb0; have HW0 := Lib.hid hW0
      clear hW0 hb0 hg0 g0 g1 g2 h h1 hv hI
      go_enter Tryz.func25, Tryz.ntmps25
      go_wp2
      rw [← HW0.out]
      clear HW0
      refine wp_region_ext (by kernel_rfl) (by kernel_rfl) ?_
      repeat (go_big_quiet_step (fail))
      refine wpQuiet_nil ?_
      intro w2 hw'
      have hb12 : Below W0.heap.size W0 w2 := by obtain ⟨q, rfl⟩ := hw'; exact below_ext W0 q
      clear hw'
      go_wp2
      go_ret
      exact ⟨rfl, bt Hb0.out hb12⟩
  · have hI : mayS rule p seats lot = false := by rw [mayS, decide_eq_false hr0, Bool.false_and]
    have d0 : decide (0 ≤ rule) = false := decide_eq_false hr0
    rw [hI]
    have Hb0 := Lib.hid hb0; have HW0 := Lib.hid hW0
    clear hW0 hb0 hg0 g0 g1 g2 h h1 hv hI
    go_enter Tryz.func25, Tryz.ntmps25
    go_wp2
    rw [← HW0.out]
    clear HW0
    refine wp_region_ext (by kernel_rfl) (by kernel_rfl) ?_
    repeat (go_big_quiet_step (fail))
    refine wpQuiet_nil ?_
    intro w2 hw'
    have hb12 : Below W0.heap.size W0 w2 := by obtain ⟨q, rfl⟩ := hw'; exact below_ext W0 q
    clear hw'
    go_wp2
    go_ret
    exact ⟨rfl, bt Hb0.out hb12⟩
end Go.Proofs.YtogngcbflhdadaaGreat

/- The helpers of chapter 11's laws: count and had (printed by genlsi.py). -/
namespace Go.Proofs.YtogngcbflhdadaaGreat
open Go Go.RowKit Go.Shelf

set_option maxHeartbeats 1000000 in
theorem l11Count0 (S T : Nat → Prop) (u v : Value) (p : Prof) (seats : Int) (lot : List Int) (w : World) (h : VProf S w u p) (hv : RInts T w v lot) (hlo : lot.length ≤ 1000000) :
    Calls Tryz.prog 30 #[.int .i64 0, u, .int .i64 seats, v] w (GivesSI 0 p seats lot w) := by
  have h1 := h
  obtain ⟨a, m, c, rfl⟩ := h.open
  obtain ⟨a2, m2, c2, rfl⟩ := RSl.slice hv
  obtain ⟨W2, hW2⟩ : ∃ W2, W2 = (w.alloc (.cells #[.int .i64 p.cands, .int .u8 p.kind, .slice a m c] 24)).alloc (.cells #[.slice none 0 0, .slice none 0 0, .slice none 0 0] 32) := ⟨_, rfl⟩
  have hb0 : Below w.heap.size w W2 := by rw [hW2]; exact ((Below.refl _ _).alloc (Nat.le_refl _) _).alloc (by simp) _
  have hbx : W2.heap[w.heap.size + 1]? = some (.cells #[.slice none 0 0, .slice none 0 0, .slice none 0 0] 32 (0, 0)) := by
    have := box_new (w.alloc (.cells #[.int .i64 p.cands, .int .u8 p.kind, .slice a m c] 24)) (.cells #[.slice none 0 0, .slice none 0 0, .slice none 0 0] 32)
    rw [hW2]
    rwa [World.size_alloc] at this
  have hz2 : W2.heap.size = w.heap.size + 2 := by rw [hW2]; simp
  have hO := (sinPlurality S T _ _ p seats lot W2 (h1.same (.of_below hb0)) (hv.same (.of_below hb0)) hlo).mono fun e w' hh => GivesSI.open hh
  have hG : ∀ (I : Int) (w3 : World) (x : Value) (w' : World), I = singleI 0 p seats lot → VOutc (From W2.heap.size) w3 x (singleV 0 p seats lot) → Same (fun b => b ≠ w.heap.size + 1) w3 w' → Below w.heap.size w w' → GivesSI 0 p seats lot w (.returned (.tuple #[x, .int .i64 I])) w' := fun I w3 x w' k0 k1 k3 k4 =>
    ⟨x, by rw [k0], VOutc.mono (fun b hb => Nat.le_trans (by omega) hb) (k1.same (k3.mono fun b hb e => by have : W2.heap.size ≤ b := hb; omega)), k4⟩
  obtain ⟨cands, hc⟩ : ∃ c, p.cands = c := ⟨_, rfl⟩
  obtain ⟨kk, hkk⟩ : ∃ c, p.kind = c := ⟨_, rfl⟩
  obtain ⟨I, hI⟩ : ∃ I, singleI 0 p seats lot = I := ⟨_, rfl⟩
  rw [hc, hkk] at hO
  rw [hI] at hO hG
  rw [hc, hkk] at hW2
  rw [hc, hkk]
  have hO2 := hO
  rw [hW2] at hO2
  have HO := Lib.hid hO2; have HG := Lib.hid hG; have Hbx := Lib.hid hbx; have Hz2 := Lib.hid hz2; have HW2 := Lib.hid hW2; have Hb0 := Lib.hid hb0
  clear hO hO2 hG hbx hz2 hW2 hb0 h1 hv hc hkk hI hlo h
  go_enter Tryz.func30, Tryz.ntmps30
  go_wp2_with (go_at_call 14; refine HO.out.mono ?_; rintro e w5 ⟨b1, m1, c1, b2, m2, c2, b3, m3, c3, rfl, k1, k2⟩; rw [← HW2.out] at k1 k2; obtain ⟨g3, gc3, gf3⟩ := own_box k2 (by rw [Hz2.out]; omega) Hbx.out; have gc30 := gc3 0; have gc31 := gc3 1; have gc32 := gc3 2; have gf30 := gf3 0; have gf31 := gf3 1; have gf32 := gf3 2; have hlt3 : w.heap.size + 1 < w5.heap.size := size_of_box g3; have K1 := Lib.hid k1; have K2 := Lib.hid k2; clear k1 k2 g3)
  refine bodyPost_ret (v := .tuple #[.agg #[.slice b1 m1 c1, .slice b2 m2 c2, .slice b3 m3 c3], .int .i64 I]) (by simp [results, Tryz.results30, go_sem, gc3]) rfl (HG.out I w5 _ _ rfl K1.out ?_ ?_)
  · exact (((Same.refl _ _).setCell (by simp) _).setCell (by simp) _).setCell (by simp) _
  · exact (((Hb0.out.trans (K2.out.mono (by rw [Hz2.out]; omega))).setCell (p := ⟨w.heap.size + 1, 0, none⟩) (by simp) _).setCell (p := ⟨w.heap.size + 1, 1, none⟩) (by simp) _).setCell (p := ⟨w.heap.size + 1, 2, none⟩) (by simp) _
set_option maxHeartbeats 1000000 in
theorem l11Count1 (S T : Nat → Prop) (u v : Value) (p : Prof) (seats : Int) (lot : List Int) (w : World) (h : VProf S w u p) (hv : RInts T w v lot) (hlo : lot.length ≤ 1000000) :
    Calls Tryz.prog 30 #[.int .i64 1, u, .int .i64 seats, v] w (GivesSI 1 p seats lot w) := by
  have h1 := h
  obtain ⟨a, m, c, rfl⟩ := h.open
  obtain ⟨a2, m2, c2, rfl⟩ := RSl.slice hv
  obtain ⟨W2, hW2⟩ : ∃ W2, W2 = (w.alloc (.cells #[.int .i64 p.cands, .int .u8 p.kind, .slice a m c] 24)).alloc (.cells #[.slice none 0 0, .slice none 0 0, .slice none 0 0] 32) := ⟨_, rfl⟩
  have hb0 : Below w.heap.size w W2 := by rw [hW2]; exact ((Below.refl _ _).alloc (Nat.le_refl _) _).alloc (by simp) _
  have hbx : W2.heap[w.heap.size + 1]? = some (.cells #[.slice none 0 0, .slice none 0 0, .slice none 0 0] 32 (0, 0)) := by
    have := box_new (w.alloc (.cells #[.int .i64 p.cands, .int .u8 p.kind, .slice a m c] 24)) (.cells #[.slice none 0 0, .slice none 0 0, .slice none 0 0] 32)
    rw [hW2]
    rwa [World.size_alloc] at this
  have hz2 : W2.heap.size = w.heap.size + 2 := by rw [hW2]; simp
  have hO := (sinApproval S T _ _ p seats lot W2 (h1.same (.of_below hb0)) (hv.same (.of_below hb0)) hlo).mono fun e w' hh => GivesSI.open hh
  have hG : ∀ (I : Int) (w3 : World) (x : Value) (w' : World), I = singleI 1 p seats lot → VOutc (From W2.heap.size) w3 x (singleV 1 p seats lot) → Same (fun b => b ≠ w.heap.size + 1) w3 w' → Below w.heap.size w w' → GivesSI 1 p seats lot w (.returned (.tuple #[x, .int .i64 I])) w' := fun I w3 x w' k0 k1 k3 k4 =>
    ⟨x, by rw [k0], VOutc.mono (fun b hb => Nat.le_trans (by omega) hb) (k1.same (k3.mono fun b hb e => by have : W2.heap.size ≤ b := hb; omega)), k4⟩
  obtain ⟨cands, hc⟩ : ∃ c, p.cands = c := ⟨_, rfl⟩
  obtain ⟨kk, hkk⟩ : ∃ c, p.kind = c := ⟨_, rfl⟩
  obtain ⟨I, hI⟩ : ∃ I, singleI 1 p seats lot = I := ⟨_, rfl⟩
  rw [hc, hkk] at hO
  rw [hI] at hO hG
  rw [hc, hkk] at hW2
  rw [hc, hkk]
  have hO2 := hO
  rw [hW2] at hO2
  have HO := Lib.hid hO2; have HG := Lib.hid hG; have Hbx := Lib.hid hbx; have Hz2 := Lib.hid hz2; have HW2 := Lib.hid hW2; have Hb0 := Lib.hid hb0
  clear hO hO2 hG hbx hz2 hW2 hb0 h1 hv hc hkk hI hlo h
  go_enter Tryz.func30, Tryz.ntmps30
  go_wp2_with (go_at_call 16; refine HO.out.mono ?_; rintro e w5 ⟨b1, m1, c1, b2, m2, c2, b3, m3, c3, rfl, k1, k2⟩; rw [← HW2.out] at k1 k2; obtain ⟨g3, gc3, gf3⟩ := own_box k2 (by rw [Hz2.out]; omega) Hbx.out; have gc30 := gc3 0; have gc31 := gc3 1; have gc32 := gc3 2; have gf30 := gf3 0; have gf31 := gf3 1; have gf32 := gf3 2; have hlt3 : w.heap.size + 1 < w5.heap.size := size_of_box g3; have K1 := Lib.hid k1; have K2 := Lib.hid k2; clear k1 k2 g3)
  refine bodyPost_ret (v := .tuple #[.agg #[.slice b1 m1 c1, .slice b2 m2 c2, .slice b3 m3 c3], .int .i64 I]) (by simp [results, Tryz.results30, go_sem, gc3]) rfl (HG.out I w5 _ _ rfl K1.out ?_ ?_)
  · exact (((Same.refl _ _).setCell (by simp) _).setCell (by simp) _).setCell (by simp) _
  · exact (((Hb0.out.trans (K2.out.mono (by rw [Hz2.out]; omega))).setCell (p := ⟨w.heap.size + 1, 0, none⟩) (by simp) _).setCell (p := ⟨w.heap.size + 1, 1, none⟩) (by simp) _).setCell (p := ⟨w.heap.size + 1, 2, none⟩) (by simp) _
set_option maxHeartbeats 1000000 in
theorem l11Count2 (S T : Nat → Prop) (u v : Value) (p : Prof) (seats : Int) (lot : List Int) (w : World) (h : VProf S w u p) (hv : RInts T w v lot) (hlo : lot.length ≤ 1000000) :
    Calls Tryz.prog 30 #[.int .i64 2, u, .int .i64 seats, v] w (GivesSI 2 p seats lot w) := by
  have h1 := h
  obtain ⟨a, m, c, rfl⟩ := h.open
  obtain ⟨a2, m2, c2, rfl⟩ := RSl.slice hv
  obtain ⟨W2, hW2⟩ : ∃ W2, W2 = (w.alloc (.cells #[.int .i64 p.cands, .int .u8 p.kind, .slice a m c] 24)).alloc (.cells #[.slice none 0 0, .slice none 0 0, .slice none 0 0] 32) := ⟨_, rfl⟩
  have hb0 : Below w.heap.size w W2 := by rw [hW2]; exact ((Below.refl _ _).alloc (Nat.le_refl _) _).alloc (by simp) _
  have hbx : W2.heap[w.heap.size + 1]? = some (.cells #[.slice none 0 0, .slice none 0 0, .slice none 0 0] 32 (0, 0)) := by
    have := box_new (w.alloc (.cells #[.int .i64 p.cands, .int .u8 p.kind, .slice a m c] 24)) (.cells #[.slice none 0 0, .slice none 0 0, .slice none 0 0] 32)
    rw [hW2]
    rwa [World.size_alloc] at this
  have hz2 : W2.heap.size = w.heap.size + 2 := by rw [hW2]; simp
  have hO := (sinScore S T _ _ p seats lot W2 (h1.same (.of_below hb0)) (hv.same (.of_below hb0)) hlo).mono fun e w' hh => GivesSI.open hh
  have hG : ∀ (I : Int) (w3 : World) (x : Value) (w' : World), I = singleI 2 p seats lot → VOutc (From W2.heap.size) w3 x (singleV 2 p seats lot) → Same (fun b => b ≠ w.heap.size + 1) w3 w' → Below w.heap.size w w' → GivesSI 2 p seats lot w (.returned (.tuple #[x, .int .i64 I])) w' := fun I w3 x w' k0 k1 k3 k4 =>
    ⟨x, by rw [k0], VOutc.mono (fun b hb => Nat.le_trans (by omega) hb) (k1.same (k3.mono fun b hb e => by have : W2.heap.size ≤ b := hb; omega)), k4⟩
  obtain ⟨cands, hc⟩ : ∃ c, p.cands = c := ⟨_, rfl⟩
  obtain ⟨kk, hkk⟩ : ∃ c, p.kind = c := ⟨_, rfl⟩
  obtain ⟨I, hI⟩ : ∃ I, singleI 2 p seats lot = I := ⟨_, rfl⟩
  rw [hc, hkk] at hO
  rw [hI] at hO hG
  rw [hc, hkk] at hW2
  rw [hc, hkk]
  have hO2 := hO
  rw [hW2] at hO2
  have HO := Lib.hid hO2; have HG := Lib.hid hG; have Hbx := Lib.hid hbx; have Hz2 := Lib.hid hz2; have HW2 := Lib.hid hW2; have Hb0 := Lib.hid hb0
  clear hO hO2 hG hbx hz2 hW2 hb0 h1 hv hc hkk hI hlo h
  go_enter Tryz.func30, Tryz.ntmps30
  go_wp2_with (go_at_call 18; refine HO.out.mono ?_; rintro e w5 ⟨b1, m1, c1, b2, m2, c2, b3, m3, c3, rfl, k1, k2⟩; rw [← HW2.out] at k1 k2; obtain ⟨g3, gc3, gf3⟩ := own_box k2 (by rw [Hz2.out]; omega) Hbx.out; have gc30 := gc3 0; have gc31 := gc3 1; have gc32 := gc3 2; have gf30 := gf3 0; have gf31 := gf3 1; have gf32 := gf3 2; have hlt3 : w.heap.size + 1 < w5.heap.size := size_of_box g3; have K1 := Lib.hid k1; have K2 := Lib.hid k2; clear k1 k2 g3)
  refine bodyPost_ret (v := .tuple #[.agg #[.slice b1 m1 c1, .slice b2 m2 c2, .slice b3 m3 c3], .int .i64 I]) (by simp [results, Tryz.results30, go_sem, gc3]) rfl (HG.out I w5 _ _ rfl K1.out ?_ ?_)
  · exact (((Same.refl _ _).setCell (by simp) _).setCell (by simp) _).setCell (by simp) _
  · exact (((Hb0.out.trans (K2.out.mono (by rw [Hz2.out]; omega))).setCell (p := ⟨w.heap.size + 1, 0, none⟩) (by simp) _).setCell (p := ⟨w.heap.size + 1, 1, none⟩) (by simp) _).setCell (p := ⟨w.heap.size + 1, 2, none⟩) (by simp) _
set_option maxHeartbeats 1000000 in
theorem l11Count3 (S T : Nat → Prop) (u v : Value) (p : Prof) (seats : Int) (lot : List Int) (w : World) (h : VProf S w u p) (hv : RInts T w v lot) (hlo : lot.length ≤ 1000000) :
    Calls Tryz.prog 30 #[.int .i64 3, u, .int .i64 seats, v] w (GivesSI 3 p seats lot w) := by
  have h1 := h
  obtain ⟨a, m, c, rfl⟩ := h.open
  obtain ⟨a2, m2, c2, rfl⟩ := RSl.slice hv
  obtain ⟨W2, hW2⟩ : ∃ W2, W2 = (w.alloc (.cells #[.int .i64 p.cands, .int .u8 p.kind, .slice a m c] 24)).alloc (.cells #[.slice none 0 0, .slice none 0 0, .slice none 0 0] 32) := ⟨_, rfl⟩
  have hb0 : Below w.heap.size w W2 := by rw [hW2]; exact ((Below.refl _ _).alloc (Nat.le_refl _) _).alloc (by simp) _
  have hbx : W2.heap[w.heap.size + 1]? = some (.cells #[.slice none 0 0, .slice none 0 0, .slice none 0 0] 32 (0, 0)) := by
    have := box_new (w.alloc (.cells #[.int .i64 p.cands, .int .u8 p.kind, .slice a m c] 24)) (.cells #[.slice none 0 0, .slice none 0 0, .slice none 0 0] 32)
    rw [hW2]
    rwa [World.size_alloc] at this
  have hz2 : W2.heap.size = w.heap.size + 2 := by rw [hW2]; simp
  have hO := (sinBorda S T _ _ p seats lot W2 (h1.same (.of_below hb0)) (hv.same (.of_below hb0)) hlo).mono fun e w' hh => GivesSI.open hh
  have hG : ∀ (I : Int) (w3 : World) (x : Value) (w' : World), I = singleI 3 p seats lot → VOutc (From W2.heap.size) w3 x (singleV 3 p seats lot) → Same (fun b => b ≠ w.heap.size + 1) w3 w' → Below w.heap.size w w' → GivesSI 3 p seats lot w (.returned (.tuple #[x, .int .i64 I])) w' := fun I w3 x w' k0 k1 k3 k4 =>
    ⟨x, by rw [k0], VOutc.mono (fun b hb => Nat.le_trans (by omega) hb) (k1.same (k3.mono fun b hb e => by have : W2.heap.size ≤ b := hb; omega)), k4⟩
  obtain ⟨cands, hc⟩ : ∃ c, p.cands = c := ⟨_, rfl⟩
  obtain ⟨kk, hkk⟩ : ∃ c, p.kind = c := ⟨_, rfl⟩
  obtain ⟨I, hI⟩ : ∃ I, singleI 3 p seats lot = I := ⟨_, rfl⟩
  rw [hc, hkk] at hO
  rw [hI] at hO hG
  rw [hc, hkk] at hW2
  rw [hc, hkk]
  have hO2 := hO
  rw [hW2] at hO2
  have HO := Lib.hid hO2; have HG := Lib.hid hG; have Hbx := Lib.hid hbx; have Hz2 := Lib.hid hz2; have HW2 := Lib.hid hW2; have Hb0 := Lib.hid hb0
  clear hO hO2 hG hbx hz2 hW2 hb0 h1 hv hc hkk hI hlo h
  go_enter Tryz.func30, Tryz.ntmps30
  go_wp2_with (go_at_call 20; refine HO.out.mono ?_; rintro e w5 ⟨b1, m1, c1, b2, m2, c2, b3, m3, c3, rfl, k1, k2⟩; rw [← HW2.out] at k1 k2; obtain ⟨g3, gc3, gf3⟩ := own_box k2 (by rw [Hz2.out]; omega) Hbx.out; have gc30 := gc3 0; have gc31 := gc3 1; have gc32 := gc3 2; have gf30 := gf3 0; have gf31 := gf3 1; have gf32 := gf3 2; have hlt3 : w.heap.size + 1 < w5.heap.size := size_of_box g3; have K1 := Lib.hid k1; have K2 := Lib.hid k2; clear k1 k2 g3)
  refine bodyPost_ret (v := .tuple #[.agg #[.slice b1 m1 c1, .slice b2 m2 c2, .slice b3 m3 c3], .int .i64 I]) (by simp [results, Tryz.results30, go_sem, gc3]) rfl (HG.out I w5 _ _ rfl K1.out ?_ ?_)
  · exact (((Same.refl _ _).setCell (by simp) _).setCell (by simp) _).setCell (by simp) _
  · exact (((Hb0.out.trans (K2.out.mono (by rw [Hz2.out]; omega))).setCell (p := ⟨w.heap.size + 1, 0, none⟩) (by simp) _).setCell (p := ⟨w.heap.size + 1, 1, none⟩) (by simp) _).setCell (p := ⟨w.heap.size + 1, 2, none⟩) (by simp) _
theorem l11Count (r : Nat) (hr : r < 4) (S T : Nat → Prop) (u v : Value) (p : Prof) (seats : Int) (lot : List Int) (w : World) (h : VProf S w u p) (hv : RInts T w v lot) (hlo : lot.length ≤ 1000000) :
    Calls Tryz.prog 30 #[.int .i64 r, u, .int .i64 seats, v] w (GivesSI r p seats lot w) := by
  obtain rfl | rfl | rfl | rfl : r = 0 ∨ r = 1 ∨ r = 2 ∨ r = 3 := by omega
  · exact l11Count0 S T u v p seats lot w h hv hlo
  · exact l11Count1 S T u v p seats lot w h hv hlo
  · exact l11Count2 S T u v p seats lot w h hv hlo
  · exact l11Count3 S T u v p seats lot w h hv hlo
set_option maxHeartbeats 1000000 in
theorem l11Had (S : Nat → Prop) (u : Value) (o : Outc) (x : Rnd) (cands : Nat) (w : World) (h : VOutc S w u o) (ho : o.rounds = [x]) (hl : x.had.length = cands) :
    Calls Tryz.prog 27 #[u, .int .i64 cands] w fun e w' => ∃ a c, e = .returned (.tuple #[.slice a cands c, .bool true]) ∧ RRts S w' (.slice a cands c) x.had ∧ Below w.heap.size w w' := by
  obtain ⟨u1, u2, u3, rfl, h1, h2, h3⟩ := h
  obtain ⟨a1, m1, c1, rfl⟩ := RSl.slice h1
  obtain ⟨a2, c2, rfl, -, -⟩ := RSl.shape h2
  obtain ⟨a3, m3, c3, rfl⟩ := RSl.slice h3
  have hm2 : o.rounds.length = 1 := by rw [ho]; rfl
  rw [hm2] at h2 ⊢
  have hb0 := below_new w (.cells #[.slice a1 m1 c1, .slice a2 1 c2, .slice a3 m3 c3] 32)
  have hbx := box_new w (.cells #[.slice a1 m1 c1, .slice a2 1 c2, .slice a3 m3 c3] 32)
  obtain ⟨g0, g1, g2, gl⟩ := box3 hbx (Below.refl _ _)
  have h20 := h2.same (.of_below hb0)
  obtain ⟨W0, hW0⟩ : ∃ W0, W0 = w.alloc (.cells #[.slice a1 m1 c1, .slice a2 1 c2, .slice a3 m3 c3] 32) := ⟨_, rfl⟩
  rw [← hW0] at h20 hb0 g0 g1 g2
  obtain ⟨b, off, d0, d1, d2, d3, d4, d5, rfl, -, -, y0, y1, y2, y3, y4, y5, hy⟩ := RSl.at6 h20 0 (by rw [hm2]; omega)
  obtain ⟨s0, n0, t0, s2, n2, t2, s3, n3, t3, s4, n4, t4, s5, n5, t5, rfl, rfl, rfl, rfl, rfl, rfl, hy0, -, -, -⟩ := hy.open
  have hx : o.rounds[0]'(by rw [hm2]; omega) = x := by simp [ho]
  rw [hx] at hy0
  obtain rfl : n0 = cands := (RSl.len hy0).trans hl
  simp only [Nat.zero_mul, Nat.add_zero] at y0
  have hne : ((n0 : Int) != (n0 : Int)) = false := by simp
  have HW0 := Lib.hid hW0; have Hy0 := Lib.hid hy0; have Hb0 := Lib.hid hb0
  rw [hW0] at y0
  clear hW0 hy0 hb0 h1 h2 h3 h20 hy y1 y2 y3 y4 y5 hbx gl g0 g1 g2 hx hm2 ho
  go_enter Tryz.func27, Tryz.ntmps27
  go_wp2
  go_ret2
  exact ⟨_, _, rfl, by rw [← HW0.out]; exact Hy0.out, by rw [← HW0.out]; exact Hb0.out⟩
end Go.Proofs.YtogngcbflhdadaaGreat

/- Laws of the winners: their order, and one seat more. No program. -/
namespace Go.Proofs.YtogngcbflhdadaaGreat

/-- The seat that is given behind i others. -/
def winL (had lot : List Int) (i : Nat) : Int := firstL lot (bestL (gI had) (seatSt had lot i).left)
theorem seat_succ (had lot : List Int) (i : Nat) : (seatSt had lot (i + 1)).elected = (seatSt had lot i).elected ++ [winL had lot i] := rfl
section
variable {had lot : List Int} {n : Nat}
end
end Go.Proofs.YtogngcbflhdadaaGreat

/- Comparing whole numbers as ratios. -/
namespace Go.Proofs.YtogngcbflhdadaaGreat
open Go Go.RowKit Go.Shelf Limb

theorem lim_small_len {n : Nat} (h : n < 9223372036854775808) : (lim n).length ≤ 2 := lim_length_le (k := 2) (by simp only [pw]; omega)
theorem chk_whole {n : Nat} (h : n < 9223372036854775808) : ratChk false (lim n) [1] = 0 := by
  have := lim_small_len h
  rw [← lim1, ratChk_ok (m := n) (n := 1) (g := 1) (by omega) (by rw [lim1]; decide) (by omega) (Nat.gcd_one_right n) (by simp), if_pos rfl]
end Go.Proofs.YtogngcbflhdadaaGreat

/- A valid count of chapter 11: what the law's count gives, in one contract; what is known of it. -/
namespace Go.Proofs.YtogngcbflhdadaaGreat
open Go Go.RowKit Go.Shelf

theorem in_b (S : Nat → Prop) (v : Value) (l : List Int) (n : Int) (w : World) (h : RInts S w v l) : Calls Tryz.prog 32 #[v, .int .i64 n] w fun e w' => e = .returned (.bool (hasI l n)) ∧ Below w.heap.size w w' :=
  (r11In S v l n w h).mono fun _ _ ⟨h1, h2⟩ => ⟨h1, h2 ▸ Below.refl _ _⟩
theorem whole_at {had : List Int} {an : Nat} (h : an < (had.map whole).length) : (had.map whole)[an] = whole (had.getD an 0) := by
  rw [List.getElem_map, List.getD_eq_getElem?_getD, List.getElem?_eq_getElem (by simpa using h)]; rfl
theorem VRt.of {S : Nat → Prop} {w : World} {c d e : Value} {x : Rt} (h : dRt S w [c, d, e] x) : VRt S w (.agg #[c, d, e]) x := by
  obtain ⟨vn, vd, h1, h2, h3⟩ := h
  simp only [List.cons.injEq, and_true] at h1
  obtain ⟨rfl, rfl, rfl⟩ := h1
  exact ⟨_, _, rfl, h2, h3⟩
theorem VOutc.parts {S : Nat → Prop} {w : World} {x1 x2 x3 : Value} {o : Outc} (h : VOutc S w (.agg #[x1, x2, x3]) o) : RInts S w x1 o.elected ∧ RRnds S w x2 o.rounds ∧ RTies S w x3 o.ties := by
  obtain ⟨y1, y2, y3, ye, q1, q2, q3⟩ := h
  simp only [Value.agg.injEq, Array.mk.injEq, List.cons.injEq, and_true] at ye
  obtain ⟨rfl, rfl, rfl⟩ := ye
  exact ⟨q1, q2, q3⟩
/-- The law's count where it is valid: the lengths of what it gives are known. -/
theorem l11CountL (r : Nat) (hr : r < 4) (S T : Nat → Prop) (u v : Value) (p : Prof) (seats : Int) (lot : List Int) (w : World) (o : Outc) {n1 n2 n3 : Nat} (h : VProf S w u p) (hv : RInts T w v lot) (hlo : lot.length ≤ 1000000) (h0 : singleI r p seats lot = 0) (hO : singleV r p seats lot = o) (e1 : o.elected.length = n1) (e2 : o.rounds.length = n2) (e3 : o.ties.length = n3) :
    Calls Tryz.prog 30 #[.int .i64 r, u, .int .i64 seats, v] w fun e w' => ∃ b1 c1 b2 c2 b3 c3, e = .returned (.tuple #[.agg #[.slice b1 n1 c1, .slice b2 n2 c2, .slice b3 n3 c3], .int .i64 0]) ∧ VOutc Any w' (.agg #[.slice b1 n1 c1, .slice b2 n2 c2, .slice b3 n3 c3]) o ∧ Below w.heap.size w w' :=
  (l11Count r hr S T u v p seats lot w h hv hlo).mono fun e w' hh => by
    obtain ⟨b1, m1, c1, b2, m2, c2, b3, m3, c3, rfl, k, hb⟩ := GivesSI.open hh
    rw [hO] at k
    obtain ⟨q1, q2, q3⟩ := k.parts
    obtain rfl : m1 = n1 := (RSl.len q1).trans e1
    obtain rfl : m2 = n2 := (RSl.len q2).trans e2
    obtain rfl : m3 = n3 := (RSl.len q3).trans e3
    rw [h0]
    exact ⟨_, _, _, _, _, _, rfl, VOutc.mono (fun _ _ => trivial) k, hb⟩
/-- What is known of a valid count. -/
structure Facts (r : Nat) (p : Prof) (sn : Nat) (lot : List Int) (C : Nat) (had : List Int) : Prop where
  hlen : had.length = C
  c10 : 1 ≤ C ∧ C ≤ 10
  s : 1 ≤ sn ∧ sn ≤ C
  isLot : LotOf lot C
  pts : ∀ x : Nat, 0 ≤ had.getD x 0 ∧ had.getD x 0 ≤ 10000000
  blost : 0 ≤ lostS r p.rows ∧ lostS r p.rows ≤ 1000000
  out : singleV r p sn lot = ⟨(seatSt had lot sn).elected, [⟨had.map whole, whole (lostS r p.rows), (seatSt had lot sn).elected, []⟩], (seatSt had lot sn).ties⟩
  el : (seatSt had lot sn).elected.length = sn
  nodup : (seatSt had lot sn).elected.Nodup
  range : ∀ x ∈ (seatSt had lot sn).elected, 0 ≤ x ∧ x < C
  ties : (seatSt had lot sn).ties.length ≤ sn
theorem facts {r : Nat} {p : Prof} {seats : Int} {lot : List Int} (h0 : singleI r p seats lot = 0) : ∃ C sn : Nat, p.cands = (C : Int) ∧ seats = (sn : Int) ∧ Facts r p sn lot C (hadL r p.rows C) := by
  obtain ⟨ck, ⟨cc1, cc2⟩, ⟨cs1, cs2⟩, cl, cm, cf, cr, csum⟩ := counted h0
  obtain ⟨C, hCn⟩ : ∃ C : Nat, p.cands = (C : Int) := ⟨p.cands.toNat, by omega⟩
  obtain ⟨sn, hsn⟩ : ∃ s : Nat, seats = (s : Int) := ⟨seats.toNat, by omega⟩
  subst hsn
  rw [hCn, Int.toNat_natCast] at cl
  have hl : (hadL r p.rows C).length = C := by rw [hadL_fl, fl_length]
  have hcl : LotOf lot (hadL r p.rows C).length := by rw [hl]; exact cl
  obtain ⟨f1, f2, -⟩ := seat_facts hcl sn (by rw [hl]; omega)
  rw [hl] at f2
  refine ⟨C, sn, hCn, rfl, hl, by omega, by omega, cl, fun x => ?_, ?_, ?_, seat_elected _ _ _, f1, f2, seat_ties _ _ _⟩
  · by_cases hx : x < (hadL r p.rows C).length
    · have h3 := hadF_bound (rule := r) (rows := p.rows) (c := C) (x := x) (m := 10) (by omega) fun rr hr => by
        have h1 := cm rr hr
        have h2 := give_bound (x := x) ck (by have := cf rr hr; rw [hCn] at this; exact this) (by omega)
        exact ⟨by omega, h2.1, h2.2⟩
      have e : (hadL r p.rows C).getD x 0 = hadF r p.rows C x := by
        rw [List.getD_eq_getElem?_getD, List.getElem?_eq_getElem hx]
        simp only [hadL_fl, Option.getD_some]
        rw [fl_get]
      rw [e]; omega
    · rw [List.getD_eq_getElem?_getD, List.getElem?_eq_none (by omega)]; simp
  · have := lostS_bound (rule := r) (rows := p.rows) fun rr hr => by have := cm rr hr; omega
    omega
  · rw [singleV, h0, if_pos rfl, hCn]; simp only [Int.toNat_natCast, oneO]
end Go.Proofs.YtogngcbflhdadaaGreat

/- Points and lost ballots of a profile with more ballots, and of a sum of two profiles. No program. -/
namespace Go.Proofs.YtogngcbflhdadaaGreat

theorem hadF_cons (rule : Nat) (r : Row) (rs : List Row) (c x : Nat) : hadF rule (r :: rs) c x = (if lostL rule r.marks then 0 else giveL rule r.marks c x * r.many) + hadF rule rs c x := by
  rw [hadF, List.filter_cons]
  cases h : lostL rule r.marks <;> simp [hadF]
theorem lostS_cons (rule : Nat) (r : Row) (rs : List Row) : lostS rule (r :: rs) = (if lostL rule r.marks then r.many else 0) + lostS rule rs := by
  rw [lostS, List.filter_cons]
  cases h : lostL rule r.marks <;> simp [lostS]
/-- Some ballots more. -/
theorem hadF_put (rule : Nat) (m : List Int) (n : Int) (c x : Nat) : ∀ rs : List Row, hadF rule (putR rs m n) c x = hadF rule rs c x + if lostL rule m then 0 else giveL rule m c x * n
  | [] => by rw [putR, hadF_cons, hadF_nil]; simp only; omega
  | a :: rs => by
    rw [putR]
    split
    · rw [hadF_cons, hadF_cons, hadF_put rule m n c x rs]; omega
    · split
      · rename_i he
        subst he
        rw [hadF_cons, hadF_cons]
        simp only
        split
        · omega
        · rw [Int.mul_add]; omega
      · rw [hadF_cons]; simp only; omega
theorem lostS_put (rule : Nat) (m : List Int) (n : Int) : ∀ rs : List Row, lostS rule (putR rs m n) = lostS rule rs + if lostL rule m then n else 0
  | [] => by rw [putR, lostS_cons]; simp only; omega
  | a :: rs => by
    rw [putR]
    split
    · rw [lostS_cons, lostS_cons, lostS_put rule m n rs]; omega
    · split
      · rename_i he
        subst he
        rw [lostS_cons, lostS_cons]
        simp only
        split <;> omega
      · rw [lostS_cons]; simp only; omega
/-- The points in a sum are the sums of the points. -/
theorem hadF_add (rule : Nat) (c x : Nat) : ∀ (b a : List Row), hadF rule (addR a b) c x = hadF rule a c x + hadF rule b c x
  | [], a => by rw [hadF_nil]; simp only [addR, List.foldl_nil]; omega
  | r :: b, a => by
    have e : addR a (r :: b) = addR (putR a r.marks r.many) b := rfl
    rw [e, hadF_add rule c x b, hadF_put, hadF_cons]; omega
theorem lostS_add (rule : Nat) : ∀ (b a : List Row), lostS rule (addR a b) = lostS rule a + lostS rule b
  | [], a => by
    have : lostS rule [] = 0 := rfl
    rw [this]; simp only [addR, List.foldl_nil]; omega
  | r :: b, a => by
    have e : addR a (r :: b) = addR (putR a r.marks r.many) b := rfl
    rw [e, lostS_add rule b, lostS_put, lostS_cons]; omega
theorem chk_of_single {r : Nat} {p : Prof} {seats : Int} {lot : List Int} (h : singleI r p seats lot = 0) : chkP p = 0 := by
  unfold singleI countI at h
  split at h
  · omega
  · rename_i h1
    simp only [not_or, Decidable.not_not] at h1
    exact h1.1
theorem single_sum {r : Nat} {c k : Int} {a b : List Row} {seats : Int} {lot : List Int} (h : singleI r ⟨c, k, a⟩ seats lot = 0) (hc : chkP ⟨c, k, b⟩ = 0) : singleI r ⟨c, k, b⟩ seats lot = 0 := by
  unfold singleI countI at h ⊢
  simp only at h ⊢
  split at h
  · omega
  · rename_i h1
    split at h
    · omega
    · rename_i h2
      rw [if_neg, if_neg h2]
      rintro (h3 | h3)
      · exact h3 hc
      · exact h1 (.inr h3)
end Go.Proofs.YtogngcbflhdadaaGreat
