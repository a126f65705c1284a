/- Texts of one claim, put together: LawSTells, LawSH, LawSI, SeatP, RatW, LawSJ. -/
import Derived.Test.YtogngcbflhdadaaGreatBGSam
import Derived.Test.YtogngcbflhdadaaGreatBGRul
import Derived.Test.YtogngcbflhdadaaGreatBGOne
import Derived.Test.YtogngcbflhdadaaGreatBGRat

/- The law SingleTells: its walk (printed by gentells11.py). -/
namespace Go.Proofs.YtogngcbflhdadaaGreat
open Go Go.RowKit Go.Shelf

theorem VProf.open {S : Nat → Prop} {w : World} {v : Value} {p : Prof} (h : VProf S w v p) : ∃ a m c, v = .agg #[.int .i64 p.cands, .int .u8 p.kind, .slice a m c] := by
  obtain ⟨a, c, rfl, -⟩ := h; exact ⟨a, _, c, rfl⟩
theorem GivesP.open {p : Prof} {w : World} {e : Ending} {w' : World} (h : GivesP p w e w') : ∃ a m c, e = .returned (.agg #[.int .i64 p.cands, .int .u8 p.kind, .slice a m c]) ∧ VProf Any w' (.agg #[.int .i64 p.cands, .int .u8 p.kind, .slice a m c]) p ∧ Below w.heap.size w w' := by
  obtain ⟨v, rfl, h1, h2⟩ := h
  obtain ⟨a, m, c, rfl⟩ := h1.open
  exact ⟨a, m, c, rfl, h1.mono fun _ _ => trivial, h2⟩
/-- An empty row and what is appended to it. -/
theorem own_empty (W : World) : Own W.heap.size 3 1 (dInt .i64) (W.alloc (.cells #[] 3)) (.slice (some ⟨W.heap.size, 0, none⟩) 0 0) ([] : List Int) := Own.made _ _ _ _ W #[] 0 (Nat.le_refl _) (by simp [maxLen]) rfl
end Go.Proofs.YtogngcbflhdadaaGreat

/- The helpers of chapter 11's laws: kind, may, count, had. -/
namespace Go.Proofs.YtogngcbflhdadaaGreat
open Go Go.RowKit Go.Shelf

set_option maxHeartbeats 1000000 in
theorem l11Kind (rule : Nat) (hr : rule < 4) (w : World) : Calls Tryz.prog 56 #[.int .i64 rule] w fun e w' => e = .returned (.int .u8 (kindL rule)) ∧ Below w.heap.size w w' := by
  obtain rfl | rfl | rfl | rfl : rule = 0 ∨ rule = 1 ∨ rule = 2 ∨ rule = 3 := by omega
  · have i0 : ∀ w, (Instr.index 122 (.agg #[.int .u8 2, .int .u8 2, .int .u8 3, .int .u8 1]) (.int .i64 0)).run Tryz.prog w = .ok (.int .u8 2) w := fun _ => by kernel_rfl
    go_enter Tryz.func56, Tryz.ntmps56
    go_wp2
    go_ret
    exact ⟨rfl, Below.refl _ _⟩
  · have i0 : ∀ w, (Instr.index 122 (.agg #[.int .u8 2, .int .u8 2, .int .u8 3, .int .u8 1]) (.int .i64 1)).run Tryz.prog w = .ok (.int .u8 2) w := fun _ => by kernel_rfl
    go_enter Tryz.func56, Tryz.ntmps56
    go_wp2
    go_ret
    exact ⟨rfl, Below.refl _ _⟩
  · have i0 : ∀ w, (Instr.index 122 (.agg #[.int .u8 2, .int .u8 2, .int .u8 3, .int .u8 1]) (.int .i64 2)).run Tryz.prog w = .ok (.int .u8 3) w := fun _ => by kernel_rfl
    go_enter Tryz.func56, Tryz.ntmps56
    go_wp2
    go_ret
    exact ⟨rfl, Below.refl _ _⟩
  · have i0 : ∀ w, (Instr.index 122 (.agg #[.int .u8 2, .int .u8 2, .int .u8 3, .int .u8 1]) (.int .i64 3)).run Tryz.prog w = .ok (.int .u8 1) w := fun _ => by kernel_rfl
    go_enter Tryz.func56, Tryz.ntmps56
    go_wp2
    go_ret
    exact ⟨rfl, Below.refl _ _⟩
/-- Whether a law's count is valid. -/
def mayS (rule : Int) (p : Prof) (seats : Int) (lot : List Int) : Bool := decide (0 ≤ rule) && (decide (rule < 4) && decide (singleI rule.toNat p seats lot = 0))
theorem mayS_true {rule : Int} {p : Prof} {seats : Int} {lot : List Int} (h : mayS rule p seats lot = true) : ∃ r : Nat, rule = (r : Int) ∧ r < 4 ∧ singleI r p seats lot = 0 := by
  simp only [mayS, Bool.and_eq_true, decide_eq_true_eq] at h
  exact ⟨rule.toNat, by omega, by omega, h.2.2⟩
set_option maxHeartbeats 2000000 in
set_option maxRecDepth 100000 in
theorem l11May (S T : Nat → Prop) (rule : Int) (u v : Value) (p : Prof) (seats : Int) (lot : List Int) (w : World) (h : VProf S w u p) (hv : RInts T w v lot) :
    Calls Tryz.prog 25 #[.int .i64 rule, u, .int .i64 seats, v] w fun e w' => e = .returned (.bool (mayS rule p seats lot)) ∧ Below w.heap.size w w' := by
  have h1 := h
  obtain ⟨a, m, c, rfl⟩ := h.open
  obtain ⟨a2, m2, c2, rfl⟩ := RSl.slice hv
  obtain ⟨W0, hW0⟩ : ∃ W0, W0 = w.alloc (.cells #[.int .i64 p.cands, .int .u8 p.kind, .slice a m c] 24) := ⟨_, rfl⟩
  have hb0 : Below w.heap.size w W0 := by rw [hW0]; exact below_new w _
  have hg0 : W0.heap[w.heap.size]? = some (.cells #[.int .i64 p.cands, .int .u8 p.kind, .slice a m c] 24 (0, 0)) := by rw [hW0]; exact box_new w _
  obtain ⟨g0, g1, g2, -⟩ := box3 hg0 (Below.refl _ _)
  by_cases hr0 : 0 ≤ rule
  · by_cases hr4 : rule < 4
    · obtain ⟨r, rfl⟩ : ∃ r : Nat, rule = (r : Int) := ⟨rule.toNat, by omega⟩
      have hI : mayS (r : Int) p seats lot = ((singleI r p seats lot) == 0) := by
        rw [mayS, decide_eq_true hr0, decide_eq_true hr4, Bool.true_and, Bool.true_and, Int.toNat_natCast]
        rw [Bool.eq_iff_iff]; simp
      rw [hI]
      have hM := fun (q : Ex) => r11May S T _ _ p (kindL r) seats p.cands lot (ext W0 q) ((h1.same (.of_below hb0)).same (.of_below (below_ext W0 q))) ((hv.same (.of_below hb0)).same (.of_below (below_ext W0 q)))
      have hS : countI p (kindL r) seats p.cands lot = singleI r p seats lot := rfl
      simp only [hS] at hM
      have hK := fun (q : Ex) => l11Kind r (by omega) (ext W0 q)
      obtain ⟨cc, hcc⟩ : ∃ x, p.cands = x := ⟨_, rfl⟩
      obtain ⟨kk, hkk⟩ : ∃ x, p.kind = x := ⟨_, rfl⟩
      obtain ⟨I, hII⟩ : ∃ I, singleI r p seats lot = I := ⟨_, rfl⟩
      obtain ⟨K, hKK⟩ : ∃ I, kindL r = I := ⟨_, rfl⟩
      simp only [hcc, hkk, hII, hKK] at hW0 hM hK g0 g1 g2 ⊢
      have e0 := fun q => cell_ext (w := W0) g0 q
      have e1 := fun q => cell_ext (w := W0) g1 q
      have e2 := fun q => cell_ext (w := W0) g2 q
      have HM := Lib.hid hM; have HK := Lib.hid hK; have HW0 := Lib.hid hW0; have Hb0 := Lib.hid hb0
      have hge : (r : Int) ≥ 0 := by omega
      clear hM hK hW0 hb0 hg0 g0 g1 g2 h h1 hv hI hS hcc hkk hII hKK
      go_enter Tryz.func25, Tryz.ntmps25
      go_wp2
      rw [← HW0.out]
      clear HW0
      refine wp_region_ext (by kernel_rfl) (by kernel_rfl) ?_
      repeat (go_big_quiet_step ((first
        | (go_at_call 56; have hh := HK.out; exact calls_ext (v := .int .u8 K) (hh _))
        | (go_at_call 48; have hh := HM.out; exact calls_ext (v := .int .i64 I) (hh _)))))
      refine wpQuiet_nil ?_
      intro w2 hw'
      have hb12 : Below W0.heap.size W0 w2 := by obtain ⟨q, rfl⟩ := hw'; exact below_ext W0 q
      clear hw' e0 e1 e2 HM HK
      go_wp2
      go_ret
      exact ⟨rfl, bt Hb0.out hb12⟩
    · have hI : mayS rule p seats lot = false := by rw [mayS, decide_eq_false hr4, Bool.false_and, Bool.and_false]
      have d0 : decide (0 ≤ rule) = true := decide_eq_true hr0
      have d1 : decide (rule < 4) = false := decide_eq_false hr4
      rw [hI]
      have Hb0 := Lib.hid hb0; have HW0 := Lib.hid hW0
      clear hW0 hb0 hg0 g0 g1 g2 h h1 hv hI
      go_enter Tryz.func25, Tryz.ntmps25
      go_wp2
      rw [← HW0.out]
      clear HW0
      refine wp_region_ext (by kernel_rfl) (by kernel_rfl) ?_
      repeat (go_big_quiet_step (fail))
      refine wpQuiet_nil ?_
      intro w2 hw'
      have hb12 : Below W0.heap.size W0 w2 := by obtain ⟨q, rfl⟩ := hw'; exact below_ext W0 q
      clear hw'
      go_wp2
      go_ret
      exact ⟨rfl, bt Hb0.out hb12⟩
  · have hI : mayS rule p seats lot = false := by rw [mayS, decide_eq_false hr0, Bool.false_and]
    have d0 : decide (0 ≤ rule) = false := decide_eq_false hr0
    rw [hI]
    have Hb0 := Lib.hid hb0; have HW0 := Lib.hid hW0
    clear hW0 hb0 hg0 g0 g1 g2 h h1 hv hI
    go_enter Tryz.func25, Tryz.ntmps25
    go_wp2
    rw [← HW0.out]
    clear HW0
    refine wp_region_ext (by kernel_rfl) (by kernel_rfl) ?_
    repeat (go_big_quiet_step (fail))
    refine wpQuiet_nil ?_
    intro w2 hw'
    have hb12 : Below W0.heap.size W0 w2 := by obtain ⟨q, rfl⟩ := hw'; exact below_ext W0 q
    clear hw'
    go_wp2
    go_ret
    exact ⟨rfl, bt Hb0.out hb12⟩
end Go.Proofs.YtogngcbflhdadaaGreat

/- The helpers of chapter 11's laws: count and had (printed by genlsi.py). -/
namespace Go.Proofs.YtogngcbflhdadaaGreat
open Go Go.RowKit Go.Shelf

set_option maxHeartbeats 1000000 in
theorem l11Count0 (S T : Nat → Prop) (u v : Value) (p : Prof) (seats : Int) (lot : List Int) (w : World) (h : VProf S w u p) (hv : RInts T w v lot) (hlo : lot.length ≤ 1000000) :
    Calls Tryz.prog 30 #[.int .i64 0, u, .int .i64 seats, v] w (GivesSI 0 p seats lot w) := by
  have h1 := h
  obtain ⟨a, m, c, rfl⟩ := h.open
  obtain ⟨a2, m2, c2, rfl⟩ := RSl.slice hv
  obtain ⟨W2, hW2⟩ : ∃ W2, W2 = (w.alloc (.cells #[.int .i64 p.cands, .int .u8 p.kind, .slice a m c] 24)).alloc (.cells #[.slice none 0 0, .slice none 0 0, .slice none 0 0] 32) := ⟨_, rfl⟩
  have hb0 : Below w.heap.size w W2 := by rw [hW2]; exact ((Below.refl _ _).alloc (Nat.le_refl _) _).alloc (by simp) _
  have hbx : W2.heap[w.heap.size + 1]? = some (.cells #[.slice none 0 0, .slice none 0 0, .slice none 0 0] 32 (0, 0)) := by
    have := box_new (w.alloc (.cells #[.int .i64 p.cands, .int .u8 p.kind, .slice a m c] 24)) (.cells #[.slice none 0 0, .slice none 0 0, .slice none 0 0] 32)
    rw [hW2]
    rwa [World.size_alloc] at this
  have hz2 : W2.heap.size = w.heap.size + 2 := by rw [hW2]; simp
  have hO := (sinPlurality S T _ _ p seats lot W2 (h1.same (.of_below hb0)) (hv.same (.of_below hb0)) hlo).mono fun e w' hh => GivesSI.open hh
  have hG : ∀ (I : Int) (w3 : World) (x : Value) (w' : World), I = singleI 0 p seats lot → VOutc (From W2.heap.size) w3 x (singleV 0 p seats lot) → Same (fun b => b ≠ w.heap.size + 1) w3 w' → Below w.heap.size w w' → GivesSI 0 p seats lot w (.returned (.tuple #[x, .int .i64 I])) w' := fun I w3 x w' k0 k1 k3 k4 =>
    ⟨x, by rw [k0], VOutc.mono (fun b hb => Nat.le_trans (by omega) hb) (k1.same (k3.mono fun b hb e => by have : W2.heap.size ≤ b := hb; omega)), k4⟩
  obtain ⟨cands, hc⟩ : ∃ c, p.cands = c := ⟨_, rfl⟩
  obtain ⟨kk, hkk⟩ : ∃ c, p.kind = c := ⟨_, rfl⟩
  obtain ⟨I, hI⟩ : ∃ I, singleI 0 p seats lot = I := ⟨_, rfl⟩
  rw [hc, hkk] at hO
  rw [hI] at hO hG
  rw [hc, hkk] at hW2
  rw [hc, hkk]
  have hO2 := hO
  rw [hW2] at hO2
  have HO := Lib.hid hO2; have HG := Lib.hid hG; have Hbx := Lib.hid hbx; have Hz2 := Lib.hid hz2; have HW2 := Lib.hid hW2; have Hb0 := Lib.hid hb0
  clear hO hO2 hG hbx hz2 hW2 hb0 h1 hv hc hkk hI hlo h
  go_enter Tryz.func30, Tryz.ntmps30
  go_wp2_with (go_at_call 14; refine HO.out.mono ?_; rintro e w5 ⟨b1, m1, c1, b2, m2, c2, b3, m3, c3, rfl, k1, k2⟩; rw [← HW2.out] at k1 k2; obtain ⟨g3, gc3, gf3⟩ := own_box k2 (by rw [Hz2.out]; omega) Hbx.out; have gc30 := gc3 0; have gc31 := gc3 1; have gc32 := gc3 2; have gf30 := gf3 0; have gf31 := gf3 1; have gf32 := gf3 2; have hlt3 : w.heap.size + 1 < w5.heap.size := size_of_box g3; have K1 := Lib.hid k1; have K2 := Lib.hid k2; clear k1 k2 g3)
  refine bodyPost_ret (v := .tuple #[.agg #[.slice b1 m1 c1, .slice b2 m2 c2, .slice b3 m3 c3], .int .i64 I]) (by simp [results, Tryz.results30, go_sem, gc3]) rfl (HG.out I w5 _ _ rfl K1.out ?_ ?_)
  · exact (((Same.refl _ _).setCell (by simp) _).setCell (by simp) _).setCell (by simp) _
  · exact (((Hb0.out.trans (K2.out.mono (by rw [Hz2.out]; omega))).setCell (p := ⟨w.heap.size + 1, 0, none⟩) (by simp) _).setCell (p := ⟨w.heap.size + 1, 1, none⟩) (by simp) _).setCell (p := ⟨w.heap.size + 1, 2, none⟩) (by simp) _
set_option maxHeartbeats 1000000 in
theorem l11Count1 (S T : Nat → Prop) (u v : Value) (p : Prof) (seats : Int) (lot : List Int) (w : World) (h : VProf S w u p) (hv : RInts T w v lot) (hlo : lot.length ≤ 1000000) :
    Calls Tryz.prog 30 #[.int .i64 1, u, .int .i64 seats, v] w (GivesSI 1 p seats lot w) := by
  have h1 := h
  obtain ⟨a, m, c, rfl⟩ := h.open
  obtain ⟨a2, m2, c2, rfl⟩ := RSl.slice hv
  obtain ⟨W2, hW2⟩ : ∃ W2, W2 = (w.alloc (.cells #[.int .i64 p.cands, .int .u8 p.kind, .slice a m c] 24)).alloc (.cells #[.slice none 0 0, .slice none 0 0, .slice none 0 0] 32) := ⟨_, rfl⟩
  have hb0 : Below w.heap.size w W2 := by rw [hW2]; exact ((Below.refl _ _).alloc (Nat.le_refl _) _).alloc (by simp) _
  have hbx : W2.heap[w.heap.size + 1]? = some (.cells #[.slice none 0 0, .slice none 0 0, .slice none 0 0] 32 (0, 0)) := by
    have := box_new (w.alloc (.cells #[.int .i64 p.cands, .int .u8 p.kind, .slice a m c] 24)) (.cells #[.slice none 0 0, .slice none 0 0, .slice none 0 0] 32)
    rw [hW2]
    rwa [World.size_alloc] at this
  have hz2 : W2.heap.size = w.heap.size + 2 := by rw [hW2]; simp
  have hO := (sinApproval S T _ _ p seats lot W2 (h1.same (.of_below hb0)) (hv.same (.of_below hb0)) hlo).mono fun e w' hh => GivesSI.open hh
  have hG : ∀ (I : Int) (w3 : World) (x : Value) (w' : World), I = singleI 1 p seats lot → VOutc (From W2.heap.size) w3 x (singleV 1 p seats lot) → Same (fun b => b ≠ w.heap.size + 1) w3 w' → Below w.heap.size w w' → GivesSI 1 p seats lot w (.returned (.tuple #[x, .int .i64 I])) w' := fun I w3 x w' k0 k1 k3 k4 =>
    ⟨x, by rw [k0], VOutc.mono (fun b hb => Nat.le_trans (by omega) hb) (k1.same (k3.mono fun b hb e => by have : W2.heap.size ≤ b := hb; omega)), k4⟩
  obtain ⟨cands, hc⟩ : ∃ c, p.cands = c := ⟨_, rfl⟩
  obtain ⟨kk, hkk⟩ : ∃ c, p.kind = c := ⟨_, rfl⟩
  obtain ⟨I, hI⟩ : ∃ I, singleI 1 p seats lot = I := ⟨_, rfl⟩
  rw [hc, hkk] at hO
  rw [hI] at hO hG
  rw [hc, hkk] at hW2
  rw [hc, hkk]
  have hO2 := hO
  rw [hW2] at hO2
  have HO := Lib.hid hO2; have HG := Lib.hid hG; have Hbx := Lib.hid hbx; have Hz2 := Lib.hid hz2; have HW2 := Lib.hid hW2; have Hb0 := Lib.hid hb0
  clear hO hO2 hG hbx hz2 hW2 hb0 h1 hv hc hkk hI hlo h
  go_enter Tryz.func30, Tryz.ntmps30
  go_wp2_with (go_at_call 16; refine HO.out.mono ?_; rintro e w5 ⟨b1, m1, c1, b2, m2, c2, b3, m3, c3, rfl, k1, k2⟩; rw [← HW2.out] at k1 k2; obtain ⟨g3, gc3, gf3⟩ := own_box k2 (by rw [Hz2.out]; omega) Hbx.out; have gc30 := gc3 0; have gc31 := gc3 1; have gc32 := gc3 2; have gf30 := gf3 0; have gf31 := gf3 1; have gf32 := gf3 2; have hlt3 : w.heap.size + 1 < w5.heap.size := size_of_box g3; have K1 := Lib.hid k1; have K2 := Lib.hid k2; clear k1 k2 g3)
  refine bodyPost_ret (v := .tuple #[.agg #[.slice b1 m1 c1, .slice b2 m2 c2, .slice b3 m3 c3], .int .i64 I]) (by simp [results, Tryz.results30, go_sem, gc3]) rfl (HG.out I w5 _ _ rfl K1.out ?_ ?_)
  · exact (((Same.refl _ _).setCell (by simp) _).setCell (by simp) _).setCell (by simp) _
  · exact (((Hb0.out.trans (K2.out.mono (by rw [Hz2.out]; omega))).setCell (p := ⟨w.heap.size + 1, 0, none⟩) (by simp) _).setCell (p := ⟨w.heap.size + 1, 1, none⟩) (by simp) _).setCell (p := ⟨w.heap.size + 1, 2, none⟩) (by simp) _
set_option maxHeartbeats 1000000 in
theorem l11Count2 (S T : Nat → Prop) (u v : Value) (p : Prof) (seats : Int) (lot : List Int) (w : World) (h : VProf S w u p) (hv : RInts T w v lot) (hlo : lot.length ≤ 1000000) :
    Calls Tryz.prog 30 #[.int .i64 2, u, .int .i64 seats, v] w (GivesSI 2 p seats lot w) := by
  have h1 := h
  obtain ⟨a, m, c, rfl⟩ := h.open
  obtain ⟨a2, m2, c2, rfl⟩ := RSl.slice hv
  obtain ⟨W2, hW2⟩ : ∃ W2, W2 = (w.alloc (.cells #[.int .i64 p.cands, .int .u8 p.kind, .slice a m c] 24)).alloc (.cells #[.slice none 0 0, .slice none 0 0, .slice none 0 0] 32) := ⟨_, rfl⟩
  have hb0 : Below w.heap.size w W2 := by rw [hW2]; exact ((Below.refl _ _).alloc (Nat.le_refl _) _).alloc (by simp) _
  have hbx : W2.heap[w.heap.size + 1]? = some (.cells #[.slice none 0 0, .slice none 0 0, .slice none 0 0] 32 (0, 0)) := by
    have := box_new (w.alloc (.cells #[.int .i64 p.cands, .int .u8 p.kind, .slice a m c] 24)) (.cells #[.slice none 0 0, .slice none 0 0, .slice none 0 0] 32)
    rw [hW2]
    rwa [World.size_alloc] at this
  have hz2 : W2.heap.size = w.heap.size + 2 := by rw [hW2]; simp
  have hO := (sinScore S T _ _ p seats lot W2 (h1.same (.of_below hb0)) (hv.same (.of_below hb0)) hlo).mono fun e w' hh => GivesSI.open hh
  have hG : ∀ (I : Int) (w3 : World) (x : Value) (w' : World), I = singleI 2 p seats lot → VOutc (From W2.heap.size) w3 x (singleV 2 p seats lot) → Same (fun b => b ≠ w.heap.size + 1) w3 w' → Below w.heap.size w w' → GivesSI 2 p seats lot w (.returned (.tuple #[x, .int .i64 I])) w' := fun I w3 x w' k0 k1 k3 k4 =>
    ⟨x, by rw [k0], VOutc.mono (fun b hb => Nat.le_trans (by omega) hb) (k1.same (k3.mono fun b hb e => by have : W2.heap.size ≤ b := hb; omega)), k4⟩
  obtain ⟨cands, hc⟩ : ∃ c, p.cands = c := ⟨_, rfl⟩
  obtain ⟨kk, hkk⟩ : ∃ c, p.kind = c := ⟨_, rfl⟩
  obtain ⟨I, hI⟩ : ∃ I, singleI 2 p seats lot = I := ⟨_, rfl⟩
  rw [hc, hkk] at hO
  rw [hI] at hO hG
  rw [hc, hkk] at hW2
  rw [hc, hkk]
  have hO2 := hO
  rw [hW2] at hO2
  have HO := Lib.hid hO2; have HG := Lib.hid hG; have Hbx := Lib.hid hbx; have Hz2 := Lib.hid hz2; have HW2 := Lib.hid hW2; have Hb0 := Lib.hid hb0
  clear hO hO2 hG hbx hz2 hW2 hb0 h1 hv hc hkk hI hlo h
  go_enter Tryz.func30, Tryz.ntmps30
  go_wp2_with (go_at_call 18; refine HO.out.mono ?_; rintro e w5 ⟨b1, m1, c1, b2, m2, c2, b3, m3, c3, rfl, k1, k2⟩; rw [← HW2.out] at k1 k2; obtain ⟨g3, gc3, gf3⟩ := own_box k2 (by rw [Hz2.out]; omega) Hbx.out; have gc30 := gc3 0; have gc31 := gc3 1; have gc32 := gc3 2; have gf30 := gf3 0; have gf31 := gf3 1; have gf32 := gf3 2; have hlt3 : w.heap.size + 1 < w5.heap.size := size_of_box g3; have K1 := Lib.hid k1; have K2 := Lib.hid k2; clear k1 k2 g3)
  refine bodyPost_ret (v := .tuple #[.agg #[.slice b1 m1 c1, .slice b2 m2 c2, .slice b3 m3 c3], .int .i64 I]) (by simp [results, Tryz.results30, go_sem, gc3]) rfl (HG.out I w5 _ _ rfl K1.out ?_ ?_)
  · exact (((Same.refl _ _).setCell (by simp) _).setCell (by simp) _).setCell (by simp) _
  · exact (((Hb0.out.trans (K2.out.mono (by rw [Hz2.out]; omega))).setCell (p := ⟨w.heap.size + 1, 0, none⟩) (by simp) _).setCell (p := ⟨w.heap.size + 1, 1, none⟩) (by simp) _).setCell (p := ⟨w.heap.size + 1, 2, none⟩) (by simp) _
set_option maxHeartbeats 1000000 in
theorem l11Count3 (S T : Nat → Prop) (u v : Value) (p : Prof) (seats : Int) (lot : List Int) (w : World) (h : VProf S w u p) (hv : RInts T w v lot) (hlo : lot.length ≤ 1000000) :
    Calls Tryz.prog 30 #[.int .i64 3, u, .int .i64 seats, v] w (GivesSI 3 p seats lot w) := by
  have h1 := h
  obtain ⟨a, m, c, rfl⟩ := h.open
  obtain ⟨a2, m2, c2, rfl⟩ := RSl.slice hv
  obtain ⟨W2, hW2⟩ : ∃ W2, W2 = (w.alloc (.cells #[.int .i64 p.cands, .int .u8 p.kind, .slice a m c] 24)).alloc (.cells #[.slice none 0 0, .slice none 0 0, .slice none 0 0] 32) := ⟨_, rfl⟩
  have hb0 : Below w.heap.size w W2 := by rw [hW2]; exact ((Below.refl _ _).alloc (Nat.le_refl _) _).alloc (by simp) _
  have hbx : W2.heap[w.heap.size + 1]? = some (.cells #[.slice none 0 0, .slice none 0 0, .slice none 0 0] 32 (0, 0)) := by
    have := box_new (w.alloc (.cells #[.int .i64 p.cands, .int .u8 p.kind, .slice a m c] 24)) (.cells #[.slice none 0 0, .slice none 0 0, .slice none 0 0] 32)
    rw [hW2]
    rwa [World.size_alloc] at this
  have hz2 : W2.heap.size = w.heap.size + 2 := by rw [hW2]; simp
  have hO := (sinBorda S T _ _ p seats lot W2 (h1.same (.of_below hb0)) (hv.same (.of_below hb0)) hlo).mono fun e w' hh => GivesSI.open hh
  have hG : ∀ (I : Int) (w3 : World) (x : Value) (w' : World), I = singleI 3 p seats lot → VOutc (From W2.heap.size) w3 x (singleV 3 p seats lot) → Same (fun b => b ≠ w.heap.size + 1) w3 w' → Below w.heap.size w w' → GivesSI 3 p seats lot w (.returned (.tuple #[x, .int .i64 I])) w' := fun I w3 x w' k0 k1 k3 k4 =>
    ⟨x, by rw [k0], VOutc.mono (fun b hb => Nat.le_trans (by omega) hb) (k1.same (k3.mono fun b hb e => by have : W2.heap.size ≤ b := hb; omega)), k4⟩
  obtain ⟨cands, hc⟩ : ∃ c, p.cands = c := ⟨_, rfl⟩
  obtain ⟨kk, hkk⟩ : ∃ c, p.kind = c := ⟨_, rfl⟩
  obtain ⟨I, hI⟩ : ∃ I, singleI 3 p seats lot = I := ⟨_, rfl⟩
  rw [hc, hkk] at hO
  rw [hI] at hO hG
  rw [hc, hkk] at hW2
  rw [hc, hkk]
  have hO2 := hO
  rw [hW2] at hO2
  have HO := Lib.hid hO2; have HG := Lib.hid hG; have Hbx := Lib.hid hbx; have Hz2 := Lib.hid hz2; have HW2 := Lib.hid hW2; have Hb0 := Lib.hid hb0
  clear hO hO2 hG hbx hz2 hW2 hb0 h1 hv hc hkk hI hlo h
  go_enter Tryz.func30, Tryz.ntmps30
  go_wp2_with (go_at_call 20; refine HO.out.mono ?_; rintro e w5 ⟨b1, m1, c1, b2, m2, c2, b3, m3, c3, rfl, k1, k2⟩; rw [← HW2.out] at k1 k2; obtain ⟨g3, gc3, gf3⟩ := own_box k2 (by rw [Hz2.out]; omega) Hbx.out; have gc30 := gc3 0; have gc31 := gc3 1; have gc32 := gc3 2; have gf30 := gf3 0; have gf31 := gf3 1; have gf32 := gf3 2; have hlt3 : w.heap.size + 1 < w5.heap.size := size_of_box g3; have K1 := Lib.hid k1; have K2 := Lib.hid k2; clear k1 k2 g3)
  refine bodyPost_ret (v := .tuple #[.agg #[.slice b1 m1 c1, .slice b2 m2 c2, .slice b3 m3 c3], .int .i64 I]) (by simp [results, Tryz.results30, go_sem, gc3]) rfl (HG.out I w5 _ _ rfl K1.out ?_ ?_)
  · exact (((Same.refl _ _).setCell (by simp) _).setCell (by simp) _).setCell (by simp) _
  · exact (((Hb0.out.trans (K2.out.mono (by rw [Hz2.out]; omega))).setCell (p := ⟨w.heap.size + 1, 0, none⟩) (by simp) _).setCell (p := ⟨w.heap.size + 1, 1, none⟩) (by simp) _).setCell (p := ⟨w.heap.size + 1, 2, none⟩) (by simp) _
theorem l11Count (r : Nat) (hr : r < 4) (S T : Nat → Prop) (u v : Value) (p : Prof) (seats : Int) (lot : List Int) (w : World) (h : VProf S w u p) (hv : RInts T w v lot) (hlo : lot.length ≤ 1000000) :
    Calls Tryz.prog 30 #[.int .i64 r, u, .int .i64 seats, v] w (GivesSI r p seats lot w) := by
  obtain rfl | rfl | rfl | rfl : r = 0 ∨ r = 1 ∨ r = 2 ∨ r = 3 := by omega
  · exact l11Count0 S T u v p seats lot w h hv hlo
  · exact l11Count1 S T u v p seats lot w h hv hlo
  · exact l11Count2 S T u v p seats lot w h hv hlo
  · exact l11Count3 S T u v p seats lot w h hv hlo
set_option maxHeartbeats 1000000 in
theorem l11Had (S : Nat → Prop) (u : Value) (o : Outc) (x : Rnd) (cands : Nat) (w : World) (h : VOutc S w u o) (ho : o.rounds = [x]) (hl : x.had.length = cands) :
    Calls Tryz.prog 27 #[u, .int .i64 cands] w fun e w' => ∃ a c, e = .returned (.tuple #[.slice a cands c, .bool true]) ∧ RRts S w' (.slice a cands c) x.had ∧ Below w.heap.size w w' := by
  obtain ⟨u1, u2, u3, rfl, h1, h2, h3⟩ := h
  obtain ⟨a1, m1, c1, rfl⟩ := RSl.slice h1
  obtain ⟨a2, c2, rfl, -, -⟩ := RSl.shape h2
  obtain ⟨a3, m3, c3, rfl⟩ := RSl.slice h3
  have hm2 : o.rounds.length = 1 := by rw [ho]; rfl
  rw [hm2] at h2 ⊢
  have hb0 := below_new w (.cells #[.slice a1 m1 c1, .slice a2 1 c2, .slice a3 m3 c3] 32)
  have hbx := box_new w (.cells #[.slice a1 m1 c1, .slice a2 1 c2, .slice a3 m3 c3] 32)
  obtain ⟨g0, g1, g2, gl⟩ := box3 hbx (Below.refl _ _)
  have h20 := h2.same (.of_below hb0)
  obtain ⟨W0, hW0⟩ : ∃ W0, W0 = w.alloc (.cells #[.slice a1 m1 c1, .slice a2 1 c2, .slice a3 m3 c3] 32) := ⟨_, rfl⟩
  rw [← hW0] at h20 hb0 g0 g1 g2
  obtain ⟨b, off, d0, d1, d2, d3, d4, d5, rfl, -, -, y0, y1, y2, y3, y4, y5, hy⟩ := RSl.at6 h20 0 (by rw [hm2]; omega)
  obtain ⟨s0, n0, t0, s2, n2, t2, s3, n3, t3, s4, n4, t4, s5, n5, t5, rfl, rfl, rfl, rfl, rfl, rfl, hy0, -, -, -⟩ := hy.open
  have hx : o.rounds[0]'(by rw [hm2]; omega) = x := by simp [ho]
  rw [hx] at hy0
  obtain rfl : n0 = cands := (RSl.len hy0).trans hl
  simp only [Nat.zero_mul, Nat.add_zero] at y0
  have hne : ((n0 : Int) != (n0 : Int)) = false := by simp
  have HW0 := Lib.hid hW0; have Hy0 := Lib.hid hy0; have Hb0 := Lib.hid hb0
  rw [hW0] at y0
  clear hW0 hy0 hb0 h1 h2 h3 h20 hy y1 y2 y3 y4 y5 hbx gl g0 g1 g2 hx hm2 ho
  go_enter Tryz.func27, Tryz.ntmps27
  go_wp2
  go_ret2
  exact ⟨_, _, rfl, by rw [← HW0.out]; exact Hy0.out, by rw [← HW0.out]; exact Hb0.out⟩
end Go.Proofs.YtogngcbflhdadaaGreat

/- Laws of the winners: their order, and one seat more. No program. -/
namespace Go.Proofs.YtogngcbflhdadaaGreat

theorem firstL_sub {among sub : List Int} {a : Int} : ∀ {lot : List Int}, firstL lot among = a → a ∈ lot → a ∈ sub → (∀ x ∈ sub, x ∈ among) → firstL lot sub = a
  | [], _, h, _, _ => absurd h List.not_mem_nil
  | x :: l, h, hl, ha, hs => by
    by_cases hx : x ∈ among
    · have e1 : firstL (x :: l) among = x := by simp [firstL, hx]
      rw [e1] at h
      subst h
      simp [firstL, ha]
    · have hxs : x ∉ sub := fun hh => hx (hs x hh)
      have e1 : firstL (x :: l) among = firstL l among := by simp [firstL, hx]
      have e2 : firstL (x :: l) sub = firstL l sub := by simp [firstL, hxs]
      rw [e1] at h
      rw [e2]
      refine firstL_sub h ?_ ha hs
      rcases List.mem_cons.1 hl with e | e
      · exact absurd (e ▸ ha) hxs
      · exact e
/-- The seat that is given behind i others. -/
def winL (had lot : List Int) (i : Nat) : Int := firstL lot (bestL (gI had) (seatSt had lot i).left)
theorem seat_succ (had lot : List Int) (i : Nat) : (seatSt had lot (i + 1)).elected = (seatSt had lot i).elected ++ [winL had lot i] := rfl
theorem seat_take (had lot : List Int) {i : Nat} : ∀ n, i ≤ n → (seatSt had lot n).elected.take i = (seatSt had lot i).elected
  | 0, h => by
    obtain rfl : i = 0 := by omega
    rfl
  | n + 1, h => by
    by_cases e : i = n + 1
    · subst e
      exact List.take_of_length_le (by rw [seat_elected]; omega)
    · rw [seat_succ, List.take_append_of_le_length (by rw [seat_elected]; omega)]
      exact seat_take had lot n (by omega)
theorem seat_get (had lot : List Int) {i n : Nat} (h : i < n) (hi : i < (seatSt had lot n).elected.length) : (seatSt had lot n).elected[i] = winL had lot i := by
  have h1 := seat_take had lot (i := i + 1) n (by omega)
  have h2 : ((seatSt had lot n).elected.take (i + 1))[i]? = some (seatSt had lot n).elected[i] := by rw [List.getElem?_take_of_lt (by omega), List.getElem?_eq_getElem hi]
  rw [h1, seat_succ, List.getElem?_append_right (by rw [seat_elected]; omega), seat_elected, Nat.sub_self] at h2
  simpa using h2.symm
/-- The winners, and behind them all others as the lot has them. -/
def orderL (el lot : List Int) (k : Nat) : List Int := el ++ (lot.take k).filter fun y => !el.contains y
theorem order_succ {el lot : List Int} {k : Nat} (h : k < lot.length) : orderL el lot (k + 1) = if el.contains lot[k] then orderL el lot k else orderL el lot k ++ [lot[k]] := by
  rw [orderL, orderL, List.take_succ_eq_append_getElem h, List.filter_append]
  cases e : el.contains lot[k] <;> simp at e <;> simp [e]
theorem order_zero (el lot : List Int) : orderL el lot 0 = el := by simp [orderL]
section
variable {had lot : List Int} {n : Nat}
theorem mem_order {el : List Int} (h : ∀ x ∈ el, x ∈ lot) (x : Int) : x ∈ orderL el lot lot.length ↔ x ∈ lot := by
  rw [orderL, List.take_length, List.mem_append, List.mem_filter]
  constructor
  · rintro (h1 | ⟨h1, -⟩)
    · exact h x h1
    · exact h1
  · intro h1
    by_cases e : x ∈ el
    · exact .inl e
    · exact .inr ⟨h1, by simpa using e⟩
theorem nodup_order {el : List Int} (h1 : el.Nodup) (h2 : lot.Nodup) : (orderL el lot lot.length).Nodup := by
  rw [orderL, List.take_length, List.nodup_append]
  refine ⟨h1, h2.filter _, fun a ha b hb => ?_⟩
  rintro rfl
  have := (List.mem_filter.1 hb).2
  simp at this
  exact this ha
theorem lot_order {el : List Int} (hl : LotOf lot had.length) (h1 : el.Nodup) (h2 : ∀ x ∈ el, 0 ≤ x ∧ x < had.length) : LotOf (orderL el lot lot.length) had.length := by
  have hm : ∀ x ∈ el, x ∈ lot := fun x hx => (hl.all x).2 (h2 x hx)
  have hn := nodup_order h1 hl.nodup
  refine ⟨?_, fun x => (mem_order hm x).trans (hl.all x), hn⟩
  have hp : List.Perm (orderL el lot lot.length) lot := (List.perm_ext_iff_of_nodup hn hl.nodup).2 fun x => mem_order hm x
  rw [hp.length_eq]; exact hl.1
/-- Each winner has at least what all behind it have, and where it has no more the lot puts it first. -/
theorem order_win (hl : LotOf lot had.length) (hn : n ≤ had.length) {i k : Nat} (hi : i < n) (hk : i < k) (h1 : i < (orderL (seatSt had lot n).elected lot lot.length).length) (h2 : k < (orderL (seatSt had lot n).elected lot lot.length).length) :
    gI had (orderL (seatSt had lot n).elected lot lot.length)[k] ≤ gI had (orderL (seatSt had lot n).elected lot lot.length)[i] ∧
      (gI had (orderL (seatSt had lot n).elected lot lot.length)[k] = gI had (orderL (seatSt had lot n).elected lot lot.length)[i] → firstL lot [(orderL (seatSt had lot n).elected lot lot.length)[i], (orderL (seatSt had lot n).elected lot lot.length)[k]] = (orderL (seatSt had lot n).elected lot lot.length)[i]) := by
  obtain ⟨f1, f2, f3⟩ := seat_facts hl n hn
  obtain ⟨g1, g2, g3⟩ := seat_facts hl i (by omega)
  have hlo := lot_order hl f1 f2
  have hel := seat_elected had lot n
  have ha : (orderL (seatSt had lot n).elected lot lot.length)[i] = winL had lot i := by
    rw [← seat_get had lot hi (by omega)]
    simp only [orderL]
    rw [List.getElem_append_left (by omega)]
  rw [ha]
  obtain ⟨b, hb⟩ : ∃ b, (orderL (seatSt had lot n).elected lot lot.length)[k] = b := ⟨_, rfl⟩
  rw [hb]
  have hbm : b ∈ orderL (seatSt had lot n).elected lot lot.length := hb ▸ List.getElem_mem _
  have hbr := (hlo.all b).1 hbm
  have hbl : b ∈ (seatSt had lot i).left := by
    rw [seat_left, List.mem_filter]
    refine ⟨mem_rngI.2 hbr, ?_⟩
    have : b ∉ (seatSt had lot i).elected := fun hh => by
      rw [← seat_take had lot (i := i) n (by omega)] at hh
      obtain ⟨j, hj, e⟩ := List.getElem_of_mem hh
      have hjl : j < i := by simp at hj; omega
      have e2 : (orderL (seatSt had lot n).elected lot lot.length)[j]'(by omega) = b := by
        simp only [orderL]
        rw [List.getElem_append_left (by omega), ← e, List.getElem_take]
      have := (List.getElem_inj hlo.nodup).1 (e2.trans hb.symm)
      omega
    simpa using this
  have hne : (seatSt had lot i).left ≠ [] := fun e => by rw [e] at hbl; cases hbl
  obtain ⟨w1, w2⟩ := seat_win hl hne
  have hm := (bestL_mem.1 w1).2
  refine ⟨hm b hbl, fun e => ?_⟩
  have hbb : b ∈ bestL (gI had) (seatSt had lot i).left := bestL_mem.2 ⟨hbl, fun y hy => by rw [e]; exact hm y hy⟩
  have w3 : winL had lot i ∈ (rngI had.length).filter fun y => !(seatSt had lot i).elected.contains y := by rw [← seat_left]; exact w2
  have hwl : winL had lot i ∈ lot := (hl.all _).2 (mem_rngI.1 (List.mem_filter.1 w3).1)
  exact firstL_sub (among := bestL (gI had) (seatSt had lot i).left) rfl hwl (by simp) fun x hx => by
    simp at hx
    rcases hx with rfl | rfl
    · exact w1
    · exact hbb
end
/-- One seat more is a valid count too. -/
theorem more_valid {rule : Nat} {p : Prof} {seats : Int} {lot : List Int} (h : singleI rule p seats lot = 0) (hs : seats < p.cands) : singleI rule p (seats + 1) lot = 0 := by
  have hC := counted h
  unfold singleI countI at h ⊢
  split at h
  · omega
  · rename_i h1
    rw [if_neg h1]
    split at h
    · omega
    · rename_i h2
      simp only [not_or, Int.not_lt, Bool.not_eq_false] at h2
      rw [if_neg]
      simp only [not_or, Int.not_lt, Bool.not_eq_false]
      exact ⟨by omega, by omega, by have := hC.cands; omega, h2.2.2.2⟩
end Go.Proofs.YtogngcbflhdadaaGreat

/- Comparing whole numbers as ratios. -/
namespace Go.Proofs.YtogngcbflhdadaaGreat
open Go Go.RowKit Go.Shelf Limb

theorem cmpRat_pos {m1 n1 m2 n2 : Nat} (g1 : ratChk false (lim m1) (lim n1) = 0) (g2 : ratChk false (lim m2) (lim n2) = 0) (n10 : n1 ≠ 0) (n20 : n2 ≠ 0) (f1 : (lim (m1 * n2)).length ≤ 96) (f2 : (lim (m2 * n1)).length ≤ 96) :
    cmpRat false false (lim m1) (lim n1) (lim m2) (lim n2) = (cmpN (m1 * n2) (m2 * n1), 0) := by
  have hz : ∀ {n : Nat}, n ≠ 0 → (lim n).length ≠ 0 := fun h e => h (lim_eq_nil.1 (List.eq_nil_of_length_eq_zero e))
  have hl0 : (lim 0).length = 0 := by rw [lim_zero]; rfl
  unfold cmpRat
  rw [if_neg (by rw [g1, g2]; simp)]
  simp only [val_lim, Int.toNat_natCast]
  by_cases h1 : m1 = 0
  · subst h1
    by_cases h2 : m2 = 0
    · subst h2
      simp only [hl0, Nat.zero_mul]
      rfl
    · have hp : 0 < m2 * n1 := Nat.mul_pos (by omega) (by omega)
      have hs : sideOf false (lim m2).length = 1 := by simp [sideOf, hz h2]
      rw [hl0, hs, if_pos (.inl (by decide)), Nat.zero_mul, cmpN, if_pos hp]
      rfl
  · have hs1 : sideOf false (lim m1).length = 1 := by simp [sideOf, hz h1]
    have hp : 0 < m1 * n2 := Nat.mul_pos (by omega) (by omega)
    by_cases h2 : m2 = 0
    · subst h2
      rw [hl0, hs1, if_pos (.inl (by decide)), Nat.zero_mul, cmpN, if_neg (by omega), if_pos hp]
      rfl
    · have hs2 : sideOf false (lim m2).length = 1 := by simp [sideOf, hz h2]
      rw [hs1, hs2, if_neg (by simp), if_pos ⟨f1, f2⟩, Int.one_mul]
theorem lim_small_len {n : Nat} (h : n < 9223372036854775808) : (lim n).length ≤ 2 := lim_length_le (k := 2) (by simp only [pw]; omega)
theorem chk_whole {n : Nat} (h : n < 9223372036854775808) : ratChk false (lim n) [1] = 0 := by
  have := lim_small_len h
  rw [← lim1, ratChk_ok (m := n) (n := 1) (g := 1) (by omega) (by rw [lim1]; decide) (by omega) (Nat.gcd_one_right n) (by simp), if_pos rfl]
theorem cmp_whole {a b : Nat} (ha : a < 9223372036854775808) (hb : b < 9223372036854775808) : cmpRat false false (lim a) [1] (lim b) [1] = (cmpN a b, 0) := by
  have h1 := lim_small_len ha
  have h2 := lim_small_len hb
  have := cmpRat_pos (m1 := a) (n1 := 1) (m2 := b) (n2 := 1) (by rw [lim1]; exact chk_whole ha) (by rw [lim1]; exact chk_whole hb) (by omega) (by omega) (by rw [Nat.mul_one]; omega) (by rw [Nat.mul_one]; omega)
  rwa [lim1, Nat.mul_one, Nat.mul_one] at this
theorem ratCmpW (S T : Nat → Prop) (u v : Value) (a b : Nat) (w : World) (hu : VRt S w u (whole a)) (hv : VRt T w v (whole b)) (ha : a < 9223372036854775808) (hb : b < 9223372036854775808) :
    Calls Tryz.prog 37 #[u, v] w fun e w' => e = .returned (.tuple #[.int .i64 (cmpN a b), .int .i64 0]) ∧ Below w.heap.size w w' := by
  rw [whole_nat] at hu hv
  obtain ⟨u1, u2, rfl, h1, h2⟩ := hu
  obtain ⟨v1, v2, rfl, h3, h4⟩ := hv
  have := ratCmp S S T T false false u1 u2 v1 v2 _ _ _ _ w h1 h2 h3 h4
  simp only [cmp_whole ha hb] at this
  exact this
end Go.Proofs.YtogngcbflhdadaaGreat

/- A valid count of chapter 11: what the law's count gives, in one contract; what is known of it. -/
namespace Go.Proofs.YtogngcbflhdadaaGreat
open Go Go.RowKit Go.Shelf

theorem in_b (S : Nat → Prop) (v : Value) (l : List Int) (n : Int) (w : World) (h : RInts S w v l) : Calls Tryz.prog 32 #[v, .int .i64 n] w fun e w' => e = .returned (.bool (hasI l n)) ∧ Below w.heap.size w w' :=
  (r11In S v l n w h).mono fun _ _ ⟨h1, h2⟩ => ⟨h1, h2 ▸ Below.refl _ _⟩
theorem first_b (S T : Nat → Prop) (u v : Value) (lot among : List Int) (w : World) (h : RInts S w u lot) (hv : RInts T w v among) : Calls Tryz.prog 38 #[u, v] w fun e w' => e = .returned (.int .i64 (firstL lot among)) ∧ Below w.heap.size w w' :=
  (r11First S T u v lot among w h hv).mono fun _ _ ⟨h1, h2⟩ => ⟨h1, h2 ▸ Below.refl _ _⟩
theorem pairAt (w : World) {a b : Int} (ha : (Lit.int .i64 a).wf = true) (hb : (Lit.int .i64 b).wf = true) : RInts Any (w.alloc (.cells #[.int .i64 a, .int .i64 b] 3)).drew (.slice (some ⟨w.heap.size, 0, none⟩) 2 2) [a, b] := by
  have h : RInts Any (w.alloc (.cells #[.int .i64 a, .int .i64 b] 3)) (.slice (some ⟨w.heap.size, 0, none⟩) 2 2) [a, b] :=
    litInts (xs := [a, b]) (box_new w (.cells #[.int .i64 a, .int .i64 b] 3)) (by intro x hx; simp at hx; rcases hx with rfl | rfl; exact ha; exact hb) (by simp)
  exact h.same (.of_below (Below.drew (Below.refl _ _)))
theorem whole_at {had : List Int} {an : Nat} (h : an < (had.map whole).length) : (had.map whole)[an] = whole (had.getD an 0) := by
  rw [List.getElem_map, List.getD_eq_getElem?_getD, List.getElem?_eq_getElem (by simpa using h)]; rfl
theorem VRt.of {S : Nat → Prop} {w : World} {c d e : Value} {x : Rt} (h : dRt S w [c, d, e] x) : VRt S w (.agg #[c, d, e]) x := by
  obtain ⟨vn, vd, h1, h2, h3⟩ := h
  simp only [List.cons.injEq, and_true] at h1
  obtain ⟨rfl, rfl, rfl⟩ := h1
  exact ⟨_, _, rfl, h2, h3⟩
theorem box2 {W w1 : World} {g : Nat} {a b : Value} {e : TypeId} (hg : W.heap[g]? = some (.cells #[a, b] e (0, 0))) (hb : Below W.heap.size W w1) : w1.cell? ⟨g, 0, none⟩ = some a ∧ w1.cell? ⟨g, 1, none⟩ = some b ∧ g < w1.heap.size := by
  obtain ⟨h1, h2, -⟩ := own_box hb (size_of_box hg) hg
  exact ⟨h2 0, h2 1, size_of_box h1⟩
theorem VOutc.parts {S : Nat → Prop} {w : World} {x1 x2 x3 : Value} {o : Outc} (h : VOutc S w (.agg #[x1, x2, x3]) o) : RInts S w x1 o.elected ∧ RRnds S w x2 o.rounds ∧ RTies S w x3 o.ties := by
  obtain ⟨y1, y2, y3, ye, q1, q2, q3⟩ := h
  simp only [Value.agg.injEq, Array.mk.injEq, List.cons.injEq, and_true] at ye
  obtain ⟨rfl, rfl, rfl⟩ := ye
  exact ⟨q1, q2, q3⟩
/-- The law's count where it is valid: the lengths of what it gives are known. -/
theorem l11CountL (r : Nat) (hr : r < 4) (S T : Nat → Prop) (u v : Value) (p : Prof) (seats : Int) (lot : List Int) (w : World) (o : Outc) {n1 n2 n3 : Nat} (h : VProf S w u p) (hv : RInts T w v lot) (hlo : lot.length ≤ 1000000) (h0 : singleI r p seats lot = 0) (hO : singleV r p seats lot = o) (e1 : o.elected.length = n1) (e2 : o.rounds.length = n2) (e3 : o.ties.length = n3) :
    Calls Tryz.prog 30 #[.int .i64 r, u, .int .i64 seats, v] w fun e w' => ∃ b1 c1 b2 c2 b3 c3, e = .returned (.tuple #[.agg #[.slice b1 n1 c1, .slice b2 n2 c2, .slice b3 n3 c3], .int .i64 0]) ∧ VOutc Any w' (.agg #[.slice b1 n1 c1, .slice b2 n2 c2, .slice b3 n3 c3]) o ∧ Below w.heap.size w w' :=
  (l11Count r hr S T u v p seats lot w h hv hlo).mono fun e w' hh => by
    obtain ⟨b1, m1, c1, b2, m2, c2, b3, m3, c3, rfl, k, hb⟩ := GivesSI.open hh
    rw [hO] at k
    obtain ⟨q1, q2, q3⟩ := k.parts
    obtain rfl : m1 = n1 := (RSl.len q1).trans e1
    obtain rfl : m2 = n2 := (RSl.len q2).trans e2
    obtain rfl : m3 = n3 := (RSl.len q3).trans e3
    rw [h0]
    exact ⟨_, _, _, _, _, _, rfl, VOutc.mono (fun _ _ => trivial) k, hb⟩
/-- What is known of a valid count. -/
structure Facts (r : Nat) (p : Prof) (sn : Nat) (lot : List Int) (C : Nat) (had : List Int) : Prop where
  hlen : had.length = C
  c10 : 1 ≤ C ∧ C ≤ 10
  s : 1 ≤ sn ∧ sn ≤ C
  isLot : LotOf lot C
  pts : ∀ x : Nat, 0 ≤ had.getD x 0 ∧ had.getD x 0 ≤ 10000000
  blost : 0 ≤ lostS r p.rows ∧ lostS r p.rows ≤ 1000000
  out : singleV r p sn lot = ⟨(seatSt had lot sn).elected, [⟨had.map whole, whole (lostS r p.rows), (seatSt had lot sn).elected, []⟩], (seatSt had lot sn).ties⟩
  el : (seatSt had lot sn).elected.length = sn
  nodup : (seatSt had lot sn).elected.Nodup
  range : ∀ x ∈ (seatSt had lot sn).elected, 0 ≤ x ∧ x < C
  ties : (seatSt had lot sn).ties.length ≤ sn
theorem facts {r : Nat} {p : Prof} {seats : Int} {lot : List Int} (h0 : singleI r p seats lot = 0) : ∃ C sn : Nat, p.cands = (C : Int) ∧ seats = (sn : Int) ∧ Facts r p sn lot C (hadL r p.rows C) := by
  obtain ⟨ck, ⟨cc1, cc2⟩, ⟨cs1, cs2⟩, cl, cm, cf, cr, csum⟩ := counted h0
  obtain ⟨C, hCn⟩ : ∃ C : Nat, p.cands = (C : Int) := ⟨p.cands.toNat, by omega⟩
  obtain ⟨sn, hsn⟩ : ∃ s : Nat, seats = (s : Int) := ⟨seats.toNat, by omega⟩
  subst hsn
  rw [hCn, Int.toNat_natCast] at cl
  have hl : (hadL r p.rows C).length = C := by rw [hadL_fl, fl_length]
  have hcl : LotOf lot (hadL r p.rows C).length := by rw [hl]; exact cl
  obtain ⟨f1, f2, -⟩ := seat_facts hcl sn (by rw [hl]; omega)
  rw [hl] at f2
  refine ⟨C, sn, hCn, rfl, hl, by omega, by omega, cl, fun x => ?_, ?_, ?_, seat_elected _ _ _, f1, f2, seat_ties _ _ _⟩
  · by_cases hx : x < (hadL r p.rows C).length
    · have h3 := hadF_bound (rule := r) (rows := p.rows) (c := C) (x := x) (m := 10) (by omega) fun rr hr => by
        have h1 := cm rr hr
        have h2 := give_bound (x := x) ck (by have := cf rr hr; rw [hCn] at this; exact this) (by omega)
        exact ⟨by omega, h2.1, h2.2⟩
      have e : (hadL r p.rows C).getD x 0 = hadF r p.rows C x := by
        rw [List.getD_eq_getElem?_getD, List.getElem?_eq_getElem hx]
        simp only [hadL_fl, Option.getD_some]
        rw [fl_get]
      rw [e]; omega
    · rw [List.getD_eq_getElem?_getD, List.getElem?_eq_none (by omega)]; simp
  · have := lostS_bound (rule := r) (rows := p.rows) fun rr hr => by have := cm rr hr; omega
    omega
  · rw [singleV, h0, if_pos rfl, hCn]; simp only [Int.toNat_natCast, oneO]
end Go.Proofs.YtogngcbflhdadaaGreat
