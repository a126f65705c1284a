/- Texts of one claim, put together: RatA, RatB, RatC, RatD. -/
import Derived.Test.YtogngcbflhdadaaGreatBGNatR
import Derived.Deep.RegionLaw
import Derived.Deep.RegionHeld3

/- Ratios: side, size, lowest, Of, of the program and of the reference. -/
namespace Go.Proofs.YtogngcbflhdadaaGreat
open Go Go.RowKit Go.Shelf Limb

theorem RU.avoid {S : Nat → Prop} {w : World} {v : Value} {xs : List Int} {g : Nat} {cs : Array Value} {e : TypeId} (h : RU S w v xs) (hg : w.heap[g]? = some (.cells cs e (0, 0))) (hne : ∀ (i : Nat) (x : Int), cs[i]? ≠ some (Value.int .u32 x)) : RU (fun b => b ≠ g) w v xs := by
  have h0 := h
  obtain ⟨a, cap, cells, rfl, h1, h2, h3, h4⟩ := h
  refine ⟨a, cap, cells, rfl, h1, h2, h3, ?_⟩
  rcases h4 with h4 | ⟨b, off, rfl, hS, hc⟩
  · exact .inl h4
  · rcases Nat.eq_zero_or_pos xs.length with hz | hz
    · exact .inl (List.eq_nil_of_length_eq_zero hz)
    · refine .inr ⟨b, off, rfl, ?_, hc⟩
      rintro rfl
      obtain ⟨b', off', e1, -, -, hc2, -, -⟩ := RU.at h0 (i := 0) hz
      simp only [Option.some.injEq, Addr.mk.injEq, and_true] at e1
      obtain ⟨rfl, rfl⟩ := e1
      simp only [World.cell?, hg] at hc2
      exact hne _ _ (by simpa using hc2)
/-- A number kept by stores to a block of other cells. -/
theorem NumAt.kept {w w' : World} {v : Value} {n g : Nat} {cs : Array Value} {e : TypeId} (h : NumAt w v n) (hg : w.heap[g]? = some (.cells cs e (0, 0))) (hne : ∀ (i : Nat) (x : Int), cs[i]? ≠ some (Value.int .u32 x)) (hs : Same (fun b => b ≠ g) w w') : NumAt w' v n :=
  NumAt.of ((h.ru.avoid hg hne).same hs)
def sideOf (neg : Bool) (n : Nat) : Int := if n = 0 then 0 else if neg then -1 else 1
set_option maxHeartbeats 1000000 in
theorem ratSide (neg : Bool) (a1 : Option Addr) (l1 c1 : Nat) (vd : Value) (w : World) :
    Calls Tryz.prog 71 #[.agg #[.bool neg, .slice a1 l1 c1, vd]] w fun e w' => e = .returned (.int .i64 (sideOf neg l1)) ∧ Below w.heap.size w w' := by
  have hb0 := below_new w (.cells #[.bool neg, .slice a1 l1 c1, vd] 54)
  by_cases h0 : l1 = 0
  · subst h0
    go_enter Tryz.func71, Tryz.ntmps71
    go_wp2
    go_ret
    exact ⟨rfl, hb0⟩
  · have h1 : ((l1 : Int) == 0) = false := beq_eq_false_iff_ne.2 (by omega)
    have h2 : ¬ l1 = 0 := h0
    cases neg
    · have hr : sideOf false l1 = 1 := by simp [sideOf, h0]
      have Hr := Lib.hid hr; clear hr
      go_enter Tryz.func71, Tryz.ntmps71
      go_wp2
      go_ret
      exact ⟨ret_int Hr.out.symm, hb0⟩
    · have hr : sideOf true l1 = -1 := by simp [sideOf, h0]
      have Hr := Lib.hid hr; clear hr
      go_enter Tryz.func71, Tryz.ntmps71
      go_wp2
      go_ret
      exact ⟨ret_int Hr.out.symm, hb0⟩
set_option maxHeartbeats 1000000 in
theorem ratSize (n : Nat) (w : World) (hn : n < 9223372036854775808) :
    Calls Tryz.prog 154 #[.int .i64 n] w fun e w' => e = .returned (.int .u64 n) ∧ w = w' := by
  have h0 : ¬ (n : Int) < 0 := by omega
  have h1 := u64_small (x := (n : Int)) (by omega) (by omega)
  go_enter Tryz.func154, Tryz.ntmps154
  go_wp2
  go_ret
  exact ⟨rfl, rfl⟩
set_option maxHeartbeats 1000000 in
theorem r4Size (n : Nat) (w : World) (hn : n < 9223372036854775808) :
    Calls Tryz.prog 95 #[.int .i64 n] w fun e w' => e = .returned (.int .u64 n) ∧ w = w' := by
  have h0 : ¬ (n : Int) < 0 := by omega
  have h1 := u64_small (x := (n : Int)) (by omega) (by omega)
  go_enter Tryz.func95, Tryz.ntmps95
  go_wp2
  go_ret
  exact ⟨rfl, rfl⟩
set_option maxHeartbeats 2000000 in
theorem r4LowestF (neg : Bool) (vn vd : Value) (n d : Nat) (w : World) (hn : NumAt w vn n) (hd : NumAt w vd d) (hln : (lim n).length ≤ 96) (hld : (lim d).length ≤ 96) (hd0 : 0 < d) :
    Calls Tryz.prog 93 #[.bool neg, vn, vd] w fun e w' => ∃ a c a' c', e = .returned (.agg #[.bool (neg && decide (n ≠ 0)), .slice a (lim (n / Nat.gcd n d)).length c, .slice a' (lim (d / Nat.gcd n d)).length c']) ∧ RU (From w.heap.size) w' (.slice a (lim (n / Nat.gcd n d)).length c) (lim (n / Nat.gcd n d)) ∧ RU (From w.heap.size) w' (.slice a' (lim (d / Nat.gcd n d)).length c') (lim (d / Nat.gcd n d)) ∧ Below w.heap.size w w' := by
  obtain ⟨Z, hZ⟩ : ∃ Z, Z = Obj.cells #[.bool false, .slice none 0 0, .slice none 0 0] 54 (0, 0) := ⟨_, rfl⟩
  have hb0 := below_new w Z
  have hgA : (w.alloc Z).heap[w.heap.size]? = some (.cells #[.bool false, .slice none 0 0, .slice none 0 0] 54 (0, 0)) := by rw [hZ]; exact box_new w _
  have hg0 : 0 < Nat.gcd n d := Nat.gcd_pos_of_pos_right n hd0
  have hgl : (lim (Nat.gcd n d)).length ≤ 96 := lim_le_of (Nat.gcd_le_right n hd0) hld
  have hn' := hn.same hb0
  have hd' := hd.same hb0
  have hG := r3Gcd vn vd n d (w.alloc Z) hn' hd' hln hld
  have hD := fun W v (hW : Below (w.alloc Z).heap.size (w.alloc Z) W) (hv : NumAt W v (Nat.gcd n d)) => r3DivF vn v n (Nat.gcd n d) W (hn'.same hW) hv hln hgl hg0
  have hD2 := fun W v (hW : Below (w.alloc Z).heap.size (w.alloc Z) W) (hv : NumAt W v (Nat.gcd n d)) => r3DivF vd v d (Nat.gcd n d) W (hd'.same hW) hv hld hgl hg0
  obtain ⟨gg, hgg⟩ : ∃ gg, Nat.gcd n d = gg := ⟨_, rfl⟩
  obtain ⟨q1, hq1⟩ : ∃ q1, n / gg = q1 := ⟨_, rfl⟩
  obtain ⟨q2, hq2⟩ : ∃ q2, d / gg = q2 := ⟨_, rfl⟩
  rw [hgg] at hG hD hD2 ⊢
  rw [hq1] at hD ⊢
  rw [hq2] at hD2 ⊢
  have hqn : (n ≠ 0) ↔ (lim q1).length ≠ 0 := by
    rw [← hgg] at hq1
    constructor
    · intro h e
      have h2 := lim_eq_nil.1 (List.eq_nil_of_length_eq_zero e)
      have h3 := Nat.div_mul_cancel (Nat.gcd_dvd_left n d)
      rw [hq1, h2, Nat.zero_mul] at h3
      exact h h3.symm
    · intro h e
      rw [e, Nat.zero_div] at hq1
      rw [← hq1, lim_zero] at h
      exact h rfl
  have hfin : ∀ (w3 : World) a c a' c', Below (w.alloc Z).heap.size (w.alloc Z) w3 → RU (From (w.heap.size + 1)) w3 (.slice a (lim q1).length c) (lim q1) → RU (From (w.heap.size + 1)) w3 (.slice a' (lim q2).length c') (lim q2) → ∀ w', Same (fun b => b ≠ w.heap.size) w3 w' → RU (From w.heap.size) w' (.slice a (lim q1).length c) (lim q1) ∧ RU (From w.heap.size) w' (.slice a' (lim q2).length c') (lim q2) := fun w3 a c a' c' hW k1 k2 w' hs => by
    have h1 : ∀ b, From (w.heap.size + 1) b → b ≠ w.heap.size := fun b hb e => by simp only [From] at hb; omega
    have h2 : ∀ b, From (w.heap.size + 1) b → From w.heap.size b := fun b hb => Nat.le_trans (Nat.le_succ _) hb
    exact ⟨RU.mono h2 (k1.same (hs.mono h1)), RU.mono h2 (k2.same (hs.mono h1))⟩
  have hcell : ∀ w3, Below (w.alloc Z).heap.size (w.alloc Z) w3 → (∀ i, w3.cell? ⟨w.heap.size, i, none⟩ = (#[.bool false, .slice none 0 0, .slice none 0 0] : Array Value)[i]?) ∧ (∀ i, w3.frozen? ⟨w.heap.size, i, none⟩ = false) := fun w3 hW => by
    obtain ⟨-, g2, g3⟩ := own_box hW (by simp) hgA
    exact ⟨g2, g3⟩
  have hbz : ∀ w3, Below (w.alloc Z).heap.size (w.alloc Z) w3 → Below w.heap.size w w3 ∧ w.heap.size + 1 ≤ w3.heap.size := fun w3 hW => ⟨hb0.trans (hW.mono (by simp)), by have := hW.size; simp at this; omega⟩
  obtain ⟨a1, c1, rfl⟩ := hn.shape
  obtain ⟨a2, c2, rfl⟩ := hd.shape
  obtain ⟨L1, hL1⟩ : ∃ L1, (lim n).length = L1 := ⟨_, rfl⟩
  obtain ⟨L2, hL2⟩ : ∃ L2, (lim d).length = L2 := ⟨_, rfl⟩
  rw [hL1] at hG hD ⊢
  rw [hL2] at hG hD2 ⊢
  have HG := Lib.hid hG; have HD := Lib.hid hD; have HD2 := Lib.hid hD2; have HF := Lib.hid hfin; have HC := Lib.hid hcell; have HZ := Lib.hid hbz
  have hfinal : ∀ (nb : Bool) (l : Nat), l = (lim q1).length → nb = (neg && decide (l ≠ 0)) → nb = (neg && decide (n ≠ 0)) := fun nb l e h => by
    rw [h, e]; congr 1; exact decide_eq_decide.2 hqn.symm
  have HH := Lib.hid hfinal
  clear hG hD hD2 hfin hcell hbz hfinal hqn hq1 hq2 hgg hn hd hn' hd' hL1 hL2 hln hld hb0 hgA hg0 hgl
  subst hZ
  cases neg
  · have hr : (false && decide (n ≠ 0)) = false := rfl
    rw [hr]
    clear hr HH
    go_enter Tryz.func93, Tryz.ntmps93
    go_wp2_with (first
      | (go_at_call 127; refine HG.out.mono ?_; rintro e w1 ⟨a3, c3, rfl, hN3, hbb1⟩; have HN3 := Lib.hid hN3; have hz1 := hbb1.size; clear hN3)
      | (go_at_call 128; refine (HD2.out _ _ hbb2 HN3'.out).mono ?_; rintro e w3 ⟨a6, c6, a7, c7, rfl, hN6, hN7, hb3⟩; have hbb3 := hbb2.trans (hb3.mono hz2); have HN4 := Lib.hid (HN4'.out.below hb3); have HN6 := Lib.hid (RU.mono (T := From (w.heap.size + 1)) (fun b hb => Nat.le_trans (HZ.out _ hbb2).2 hb) hN6); obtain ⟨hc3, hf3⟩ := HC.out _ hbb3; clear hN6 hN7)
      | (go_at_call 128; refine (HD.out _ _ hbb1 HN3.out).mono ?_; rintro e w2 ⟨a4, c4, a5, c5, rfl, hN4, hN5, hb2⟩; have hbb2 := hbb1.trans (hb2.mono hz1); have hz2 := hbb2.size; have HN3' := Lib.hid (HN3.out.same hb2); have HN4' := Lib.hid (RU.mono (T := From (w.heap.size + 1)) (fun b hb => Nat.le_trans (HZ.out _ hbb1).2 hb) hN4); clear hN4 hN5))
    refine bodyPost_ret (v := .agg #[.bool false, .slice a4 (lim q1).length c4, .slice a6 (lim q2).length c6]) (by simp [results, Tryz.results93, go_sem, hc3]) rfl ⟨a4, c4, a6, c6, rfl, (HF.out _ _ _ _ _ hbb3 HN4.out HN6.out _ ?_).1, (HF.out _ _ _ _ _ hbb3 HN4.out HN6.out _ ?_).2, ?_⟩
    · exact (((Same.refl _ _).setCell (by simp) _).setCell (by simp) _).setCell (by simp) _
    · exact (((Same.refl _ _).setCell (by simp) _).setCell (by simp) _).setCell (by simp) _
    · exact ((((HZ.out _ hbb3).1.setCell (p := ⟨w.heap.size, 0, none⟩) (Nat.le_refl _) _).setCell (p := ⟨w.heap.size, 1, none⟩) (Nat.le_refl _) _).setCell (p := ⟨w.heap.size, 2, none⟩) (Nat.le_refl _) _)
  · by_cases h0 : (lim q1).length = 0
    · have hr : (true && decide (n ≠ 0)) = false := (HH.out false _ rfl (by simp [h0])).symm
      rw [hr]
      have h0' : ¬ (0 : Int) < ((lim q1).length : Int) := by omega
      have H0 := Lib.hid h0
      clear hr HH h0
      go_enter Tryz.func93, Tryz.ntmps93
      go_wp2_with (first
      | (go_at_call 127; refine HG.out.mono ?_; rintro e w1 ⟨a3, c3, rfl, hN3, hbb1⟩; have HN3 := Lib.hid hN3; have hz1 := hbb1.size; clear hN3)
      | (go_at_call 128; refine (HD2.out _ _ hbb2 HN3'.out).mono ?_; rintro e w3 ⟨a6, c6, a7, c7, rfl, hN6, hN7, hb3⟩; have hbb3 := hbb2.trans (hb3.mono hz2); have HN4 := Lib.hid (HN4'.out.below hb3); have HN6 := Lib.hid (RU.mono (T := From (w.heap.size + 1)) (fun b hb => Nat.le_trans (HZ.out _ hbb2).2 hb) hN6); obtain ⟨hc3, hf3⟩ := HC.out _ hbb3; clear hN6 hN7)
      | (go_at_call 128; refine (HD.out _ _ hbb1 HN3.out).mono ?_; rintro e w2 ⟨a4, c4, a5, c5, rfl, hN4, hN5, hb2⟩; have hbb2 := hbb1.trans (hb2.mono hz1); have hz2 := hbb2.size; have HN3' := Lib.hid (HN3.out.same hb2); have HN4' := Lib.hid (RU.mono (T := From (w.heap.size + 1)) (fun b hb => Nat.le_trans (HZ.out _ hbb1).2 hb) hN4); clear hN4 hN5))
      refine bodyPost_ret (v := .agg #[.bool false, .slice a4 (lim q1).length c4, .slice a6 (lim q2).length c6]) (by simp [results, Tryz.results93, go_sem, hc3, H0.out]) rfl ⟨a4, c4, a6, c6, rfl, (HF.out _ _ _ _ _ hbb3 HN4.out HN6.out _ ?_).1, (HF.out _ _ _ _ _ hbb3 HN4.out HN6.out _ ?_).2, ?_⟩
      · exact (((Same.refl _ _).setCell (by simp) _).setCell (by simp) _).setCell (by simp) _
      · exact (((Same.refl _ _).setCell (by simp) _).setCell (by simp) _).setCell (by simp) _
      · exact ((((HZ.out _ hbb3).1.setCell (p := ⟨w.heap.size, 0, none⟩) (Nat.le_refl _) _).setCell (p := ⟨w.heap.size, 1, none⟩) (Nat.le_refl _) _).setCell (p := ⟨w.heap.size, 2, none⟩) (Nat.le_refl _) _)
    · have hr : (true && decide (n ≠ 0)) = true := (HH.out true _ rfl (by simp [h0])).symm
      rw [hr]
      have h0' : (0 : Int) < ((lim q1).length : Int) := by omega
      have h0'' : 0 < (lim q1).length := by omega
      have h1 : ¬ lim q1 = [] := fun e => h0 (by rw [e]; rfl)
      clear hr HH h0
      go_enter Tryz.func93, Tryz.ntmps93
      go_wp2_with (first
      | (go_at_call 127; refine HG.out.mono ?_; rintro e w1 ⟨a3, c3, rfl, hN3, hbb1⟩; have HN3 := Lib.hid hN3; have hz1 := hbb1.size; clear hN3)
      | (go_at_call 128; refine (HD2.out _ _ hbb2 HN3'.out).mono ?_; rintro e w3 ⟨a6, c6, a7, c7, rfl, hN6, hN7, hb3⟩; have hbb3 := hbb2.trans (hb3.mono hz2); have HN4 := Lib.hid (HN4'.out.below hb3); have HN6 := Lib.hid (RU.mono (T := From (w.heap.size + 1)) (fun b hb => Nat.le_trans (HZ.out _ hbb2).2 hb) hN6); obtain ⟨hc3, hf3⟩ := HC.out _ hbb3; clear hN6 hN7)
      | (go_at_call 128; refine (HD.out _ _ hbb1 HN3.out).mono ?_; rintro e w2 ⟨a4, c4, a5, c5, rfl, hN4, hN5, hb2⟩; have hbb2 := hbb1.trans (hb2.mono hz1); have hz2 := hbb2.size; have HN3' := Lib.hid (HN3.out.same hb2); have HN4' := Lib.hid (RU.mono (T := From (w.heap.size + 1)) (fun b hb => Nat.le_trans (HZ.out _ hbb1).2 hb) hN4); clear hN4 hN5))
      refine bodyPost_ret (v := .agg #[.bool true, .slice a4 (lim q1).length c4, .slice a6 (lim q2).length c6]) (by simp [results, Tryz.results93, go_sem, hc3]) rfl ⟨a4, c4, a6, c6, rfl, (HF.out _ _ _ _ _ hbb3 HN4.out HN6.out _ ?_).1, (HF.out _ _ _ _ _ hbb3 HN4.out HN6.out _ ?_).2, ?_⟩
      · exact (((Same.refl _ _).setCell (by simp) _).setCell (by simp) _).setCell (by simp) _
      · exact (((Same.refl _ _).setCell (by simp) _).setCell (by simp) _).setCell (by simp) _
      · exact ((((HZ.out _ hbb3).1.setCell (p := ⟨w.heap.size, 0, none⟩) (Nat.le_refl _) _).setCell (p := ⟨w.heap.size, 1, none⟩) (Nat.le_refl _) _).setCell (p := ⟨w.heap.size, 2, none⟩) (Nat.le_refl _) _)
set_option maxHeartbeats 2000000 in
theorem r4OfF (n d : Nat) (w : World) (hn : n < 9223372036854775808) (hd : d < 9223372036854775808) (hd0 : 0 < d) :
    Calls Tryz.prog 60 #[.int .i64 n, .int .i64 d] w fun e w' => ∃ a c a' c', e = .returned (.tuple #[.agg #[.bool false, .slice a (lim (n / Nat.gcd n d)).length c, .slice a' (lim (d / Nat.gcd n d)).length c'], .int .i64 0]) ∧ RU (From w.heap.size) w' (.slice a (lim (n / Nat.gcd n d)).length c) (lim (n / Nat.gcd n d)) ∧ RU (From w.heap.size) w' (.slice a' (lim (d / Nat.gcd n d)).length c') (lim (d / Nat.gcd n d)) ∧ Below w.heap.size w w' := by
  have hln : (lim n).length ≤ 96 := Nat.le_trans (lim_length_le (k := 2) (by rw [pw_succ, pw_succ, pw_zero]; omega)) (by omega)
  have hld : (lim d).length ≤ 96 := Nat.le_trans (lim_length_le (k := 2) (by rw [pw_succ, pw_succ, pw_zero]; omega)) (by omega)
  obtain ⟨Z, hZ⟩ : ∃ Z, Z = Obj.cells #[.bool false, .slice none 0 0, .slice none 0 0] 54 (0, 0) := ⟨_, rfl⟩
  have hb0 := below_new w Z
  have hgA : (w.alloc Z).heap[w.heap.size]? = some (.cells #[.bool false, .slice none 0 0, .slice none 0 0] 54 (0, 0)) := by rw [hZ]; exact box_new w _
  have hSn := fun W => r4Size n W hn
  have hSd := fun W => r4Size d W hd
  have hOn := fun W => r3Of n W (by omega)
  have hOd := fun W => r3Of d W (by omega)
  have hL := fun W u v (h1 : NumAt W u n) (h2 : NumAt W v d) => r4LowestF false u v n d W h1 h2 hln hld hd0
  have hnd : ¬ (n : Int) < 0 := by omega
  have hdd : ¬ (d : Int) < 0 := by omega
  have hd1 : ((d : Int) == 0) = false := beq_eq_false_iff_ne.2 (by omega)
  have hd2 : ¬ d = 0 := by omega
  obtain ⟨q1, hq1⟩ : ∃ q1, n / Nat.gcd n d = q1 := ⟨_, rfl⟩
  obtain ⟨q2, hq2⟩ : ∃ q2, d / Nat.gcd n d = q2 := ⟨_, rfl⟩
  simp only [Bool.false_and] at hL
  rw [hq1, hq2] at hL ⊢
  have hfin : ∀ (w3 : World) a c a' c', Below (w.alloc Z).heap.size (w.alloc Z) w3 → RU (From (w.heap.size + 1)) w3 (.slice a (lim q1).length c) (lim q1) → RU (From (w.heap.size + 1)) w3 (.slice a' (lim q2).length c') (lim q2) → ∀ w', Same (fun b => b ≠ w.heap.size) w3 w' → RU (From w.heap.size) w' (.slice a (lim q1).length c) (lim q1) ∧ RU (From w.heap.size) w' (.slice a' (lim q2).length c') (lim q2) := fun w3 a c a' c' hW k1 k2 w' hs => by
    have h1 : ∀ b, From (w.heap.size + 1) b → b ≠ w.heap.size := fun b hb e => by simp only [From] at hb; omega
    have h2 : ∀ b, From (w.heap.size + 1) b → From w.heap.size b := fun b hb => Nat.le_trans (Nat.le_succ _) hb
    exact ⟨RU.mono h2 (k1.same (hs.mono h1)), RU.mono h2 (k2.same (hs.mono h1))⟩
  have hcell : ∀ w3, Below (w.alloc Z).heap.size (w.alloc Z) w3 → (∀ i, w3.cell? ⟨w.heap.size, i, none⟩ = (#[.bool false, .slice none 0 0, .slice none 0 0] : Array Value)[i]?) ∧ (∀ i, w3.frozen? ⟨w.heap.size, i, none⟩ = false) := fun w3 hW => by
    obtain ⟨-, g2, g3⟩ := own_box hW (by simp) hgA
    exact ⟨g2, g3⟩
  have hbz : ∀ w3, Below (w.alloc Z).heap.size (w.alloc Z) w3 → Below w.heap.size w w3 := fun w3 hW => hb0.trans (hW.mono (by simp))
  have HSn := Lib.hid hSn; have HSd := Lib.hid hSd; have HOn := Lib.hid hOn; have HOd := Lib.hid hOd; have HL := Lib.hid hL; have HF := Lib.hid hfin; have HC := Lib.hid hcell; have HZ := Lib.hid hbz
  clear hSn hSd hOn hOd hL hfin hcell hbz hq1 hq2 hb0 hgA hln hld
  subst hZ
  go_enter Tryz.func60, Tryz.ntmps60
  go_wp2_with (first
    | (go_at_call 95; have := hbb1; refine (HSd.out _).mono ?_; rintro e w0 ⟨rfl, rfl⟩)
    | (go_at_call 95; refine (HSn.out _).mono ?_; rintro e w0 ⟨rfl, rfl⟩)
    | (go_at_call 94; have := hbb1; refine (HOd.out _).mono ?_; rintro e w2 ⟨a4, c4, rfl, hN4, hb2⟩; have hbb2 := hbb1.trans (hb2.mono hz1); have hz2 := hbb2.size; have HN3' := Lib.hid (HN3.out.same hb2); have HN4 := Lib.hid hN4; clear hN4)
    | (go_at_call 94; refine (HOn.out _).mono ?_; rintro e w1 ⟨a3, c3, rfl, hN3, hbb1⟩; have hz1 := hbb1.size; have HN3 := Lib.hid hN3; clear hN3)
    | (go_at_call 93; refine (HL.out _ _ _ HN3'.out HN4.out).mono ?_; rintro e w3 ⟨a5, c5, a6, c6, rfl, hN5, hN6, hb3⟩; have hbb3 := hbb2.trans (hb3.mono hz2); have hm : ∀ b, From w2.heap.size b → From (w.heap.size + 1) b := (fun b hb => Nat.le_trans (by have := hbb2.size; simpa using this) hb); have HN5 := Lib.hid (RU.mono hm hN5); have HN6 := Lib.hid (RU.mono hm hN6); clear hm; obtain ⟨hc3, hf3⟩ := HC.out _ hbb3; clear hN5 hN6))
  refine bodyPost_ret (v := .tuple #[.agg #[.bool false, .slice a5 (lim q1).length c5, .slice a6 (lim q2).length c6], .int .i64 0]) (by simp [results, Tryz.results60, go_sem, hc3]) rfl ⟨a5, c5, a6, c6, rfl, (HF.out _ _ _ _ _ hbb3 HN5.out HN6.out _ ?_).1, (HF.out _ _ _ _ _ hbb3 HN5.out HN6.out _ ?_).2, ?_⟩
  · exact (((Same.refl _ _).setCell (by simp) _).setCell (by simp) _).setCell (by simp) _
  · exact (((Same.refl _ _).setCell (by simp) _).setCell (by simp) _).setCell (by simp) _
  · exact ((((HZ.out _ hbb3).setCell (p := ⟨w.heap.size, 0, none⟩) (Nat.le_refl _) _).setCell (p := ⟨w.heap.size, 1, none⟩) (Nat.le_refl _) _).setCell (p := ⟨w.heap.size, 2, none⟩) (Nat.le_refl _) _)
end Go.Proofs.YtogngcbflhdadaaGreat

/- Ratios: Check, of the program and of the reference. -/
namespace Go.Proofs.YtogngcbflhdadaaGreat
open Go Go.RowKit Go.Shelf Limb

/-- The error of a ratio's check. -/
def ratChk (neg : Bool) (xs ys : List Int) : Int := if chkN xs ≠ 0 ∨ chkN ys ≠ 0 ∨ ys = [] ∨ (neg = true ∧ xs = []) ∨ Nat.gcd (val xs).toNat (val ys).toNat ≠ 1 then 8 else 0
theorem ratChk_ok {neg : Bool} {m n : Nat} (hm : (lim m).length ≤ 96) (hn : (lim n).length ≤ 96) (hn0 : n ≠ 0) {g : Nat} (hg : Nat.gcd m n = g) (hneg : ¬ (neg = true ∧ m = 0)) : ratChk neg (lim m) (lim n) = if g = 1 then 0 else 8 := by
  unfold ratChk
  rw [chk_of_lim hm, chk_of_lim hn, val_lim, val_lim, Int.toNat_natCast, Int.toNat_natCast]
  have h1 : lim n ≠ [] := fun e => hn0 (lim_eq_nil.1 e)
  have h2 : ¬ (neg = true ∧ lim m = []) := fun h => hneg ⟨h.1, lim_eq_nil.1 h.2⟩
  simp only [ne_eq, not_true_eq_false, h1, h2, false_or, hg]
  by_cases h : g = 1
  · simp [h]
  · simp [h]
theorem ratChk_valid {neg : Bool} {xs ys : List Int} (hx : Lim xs) (hy : Lim ys) (h : ratChk neg xs ys = 0) : ∃ m n, xs = lim m ∧ ys = lim n ∧ (lim m).length ≤ 96 ∧ (lim n).length ≤ 96 ∧ n ≠ 0 ∧ ¬ (neg = true ∧ m = 0) ∧ Nat.gcd m n = 1 := by
  unfold ratChk at h
  split at h
  · cases h
  · rename_i hc
    simp only [not_or] at hc
    obtain ⟨h1, h2, h3, h4, h5⟩ := hc
    obtain ⟨m, rfl, hm⟩ := lim_of_chk hx (Decidable.not_not.1 h1)
    obtain ⟨n, rfl, hn⟩ := lim_of_chk hy (Decidable.not_not.1 h2)
    rw [val_lim, val_lim, Int.toNat_natCast, Int.toNat_natCast] at h5
    exact ⟨m, n, rfl, rfl, hm, hn, fun e => h3 (by rw [e, lim_zero]), fun e => h4 ⟨e.1, by rw [e.2, lim_zero]⟩, Decidable.not_not.1 h5⟩
theorem eqL_one (g : Nat) : eqL eqInt (lim g) [1] = decide (g = 1) := by
  by_cases h : g = 1
  · subst h
    rw [lim_small (by omega) (by omega), decide_eq_true rfl]
    exact eqL_int.2 rfl
  · rw [decide_eq_false h]
    cases hb : eqL eqInt (lim g) [1]
    · rfl
    · exfalso
      have e := congrArg val (eqL_int.1 hb)
      rw [val_lim, val_single] at e
      omega
set_option maxHeartbeats 1000000 in
theorem ratOne (w : World) : Calls Tryz.prog 106 #[] w fun e w' => ∃ g, e = .returned (.slice (some ⟨g, 0, none⟩) 1 1) ∧ RU Any w' (.slice (some ⟨g, 0, none⟩) 1 1) [1] ∧ Below w.heap.size w w' := by
  have h1 := NumAt.one w
  have hb0 := below_new w (.cells #[.int .u32 1] 128)
  have H1 := Lib.hid h1; clear h1
  go_enter Tryz.func106, Tryz.ntmps106
  go_wp2
  go_ret
  exact ⟨_, rfl, H1.out, hb0⟩
set_option maxHeartbeats 2000000 in
theorem ratCheck (S T : Nat → Prop) (neg : Bool) (vn vd : Value) (xs ys : List Int) (w : World) (hx : RU S w vn xs) (hy : RU T w vd ys) :
    Calls Tryz.prog 70 #[.agg #[.bool neg, vn, vd]] w fun e w' => e = .returned (.int .i64 (ratChk neg xs ys)) ∧ Below w.heap.size w w' := by
  obtain ⟨a1, c1, rfl, -, -⟩ := RSl.shape hx
  obtain ⟨a2, c2, rfl, -, -⟩ := RSl.shape hy
  have hlx := RU.lim hx
  have hly := RU.lim hy
  obtain ⟨W0, hW0⟩ : ∃ W0, W0 = w.alloc (.cells #[.bool neg, .slice a1 xs.length c1, .slice a2 ys.length c2] 54) := ⟨_, rfl⟩
  have hb0 : Below w.heap.size w W0 := by rw [hW0]; exact below_new w _
  have hx' := hx.below hb0
  have hy' := hy.below hb0
  have hK1 := natCheck S _ xs W0 hx'
  have hK2 := natCheck T _ ys W0 hy'
  obtain ⟨C1, hC1⟩ : ∃ C1, chkN xs = C1 := ⟨_, rfl⟩
  obtain ⟨C2, hC2⟩ : ∃ C2, chkN ys = C2 := ⟨_, rfl⟩
  rw [hC1] at hK1
  rw [hC2] at hK2
  have HCK := Lib.hid hK1; have HCK2 := Lib.hid hK2
  clear hK1 hK2
  by_cases h1 : C1 = 0
  case neg =>
    have hr : ratChk neg xs ys = 8 := by unfold ratChk; rw [if_pos (.inl (by rw [hC1]; exact h1))]
    have hcb : (C1 != 0) = true := bne_iff_ne.2 h1
    skip
    have Hr := Lib.hid hr
    clear hr hx hy hx' hy' hC1 hC2 hlx hly h1
    subst hW0
    go_enter Tryz.func70, Tryz.ntmps70
    go_wp2_with (first
      | (go_at_call_of 103 (a1); refine HCK.out.mono ?_; rintro e w1 ⟨rfl, rfl⟩)
      | (go_at_call_of 103 (a2); refine HCK2.out.mono ?_; rintro e w1 ⟨rfl, rfl⟩))
    go_ret
    exact ⟨ret_int Hr.out.symm, hb0⟩
  subst h1
  by_cases h2 : C2 = 0
  case neg =>
    have hr : ratChk neg xs ys = 8 := by unfold ratChk; rw [if_pos (.inr (.inl (by rw [hC2]; exact h2)))]
    have hcb : (C2 != 0) = true := bne_iff_ne.2 h2
    skip
    have Hr := Lib.hid hr
    clear hr hx hy hx' hy' hC1 hC2 hlx hly h2
    subst hW0
    go_enter Tryz.func70, Tryz.ntmps70
    go_wp2_with (first
      | (go_at_call_of 103 (a1); refine HCK.out.mono ?_; rintro e w1 ⟨rfl, rfl⟩)
      | (go_at_call_of 103 (a2); refine HCK2.out.mono ?_; rintro e w1 ⟨rfl, rfl⟩))
    go_ret
    exact ⟨ret_int Hr.out.symm, hb0⟩
  subst h2
  obtain ⟨m, rfl, hm⟩ := lim_of_chk hlx hC1
  obtain ⟨n, rfl, hn⟩ := lim_of_chk hly hC2
  skip
  by_cases hn0 : n = 0
  · subst hn0
    have hr : ratChk neg (lim m) (lim 0) = 8 := by unfold ratChk; rw [if_pos (.inr (.inr (.inl lim_zero)))]
    have Hr := Lib.hid hr
    have hl0 : (lim 0).length = 0 := by rw [lim_zero]; rfl
    clear hr hx hy hx' hy' hC1 hC2 hlx hly
    rw [hl0] at hW0 ⊢
    try rw [hl0] at HCK
    try rw [hl0] at HCK2
    clear hl0
    subst hW0
    go_enter Tryz.func70, Tryz.ntmps70
    go_wp2_with (first
      | (go_at_call_of 103 (a1); refine HCK.out.mono ?_; rintro e w1 ⟨rfl, rfl⟩)
      | (go_at_call_of 103 (a2); refine HCK2.out.mono ?_; rintro e w1 ⟨rfl, rfl⟩))
    go_ret
    exact ⟨ret_int Hr.out.symm, hb0⟩
  have hnl : ((lim n).length : Int) ≠ 0 := fun e => hn0 (lim_eq_nil.1 (List.eq_nil_of_length_eq_zero (by omega)))
  have hnb : (((lim n).length : Int) == 0) = false := beq_eq_false_iff_ne.2 hnl
  have hn1 : ¬ lim n = [] := fun e => hn0 (lim_eq_nil.1 e)
  have hG := natGcd _ _ m n W0 (NumAt.of hx') (NumAt.of hy') hm hn
  have hSm := fun W u v (k1 : RU Any W u (lim (Nat.gcd m n))) (k2 : RU Any W v [1]) => natSame Any Any u v _ _ W k1 k2
  simp only [eqL_one] at hSm
  obtain ⟨gg, hgg⟩ : ∃ gg, Nat.gcd m n = gg := ⟨_, rfl⟩
  rw [hgg] at hG hSm
  have hres : ¬ (neg = true ∧ m = 0) → ratChk neg (lim m) (lim n) = if gg = 1 then 0 else 8 := fun h => ratChk_ok hm hn hn0 hgg h
  have HG := Lib.hid hG
  by_cases hm0 : m = 0
  · subst hm0
    have hl0 : (lim 0).length = 0 := by rw [lim_zero]; rfl
    cases neg
    · have hres2 := hres (by simp)
      have Hres := Lib.hid hres2
      clear hres hres2 hx hy hx' hy' hC1 hC2 hlx hly hgg hG
      rw [hl0] at hW0 HCK HG ⊢
      clear hl0
      subst hW0
      by_cases hg1 : gg = 1
      · subst hg1
        have hd : decide (1 = 1) = true := rfl
        rw [hd] at hSm
        have HS := Lib.hid hSm
        clear hSm hd
        go_enter Tryz.func70, Tryz.ntmps70
        go_wp2_with (first
          | (go_at_call_of 103 (a1); refine HCK.out.mono ?_; rintro e w1 ⟨rfl, rfl⟩)
          | (go_at_call_of 103 (a2); refine HCK2.out.mono ?_; rintro e w1 ⟨rfl, rfl⟩)
          | (go_at_call 104; refine HG.out.mono ?_; rintro e w1 ⟨a3, c3, rfl, hN3, hb1⟩; have HN3 := Lib.hid hN3; have hz1 := hb1.size; simp at hz1; clear hN3)
          | (go_at_call 106; refine (ratOne _).mono ?_; rintro e w2 ⟨g, rfl, hN4, hb2⟩; have HN3' := Lib.hid (HN3.out.same hb2).ru; have HN4 := Lib.hid hN4; have hz2 := hb2.size; clear hN4)
          | (go_at_call 105; refine (HS.out _ _ _ HN3'.out HN4.out).mono ?_; rintro e w3 ⟨rfl, hb3⟩))
        go_ret
        exact ⟨ret_int (by rw [Hres.out]; rfl), hb0.trans ((hb1.mono (by simp)).trans ((hb2.mono (by omega)).trans (hb3.mono (by omega))))⟩
      · have hd : decide (gg = 1) = false := decide_eq_false hg1
        rw [hd] at hSm
        rw [if_neg hg1] at Hres
        have HS := Lib.hid hSm
        clear hSm hd hg1
        go_enter Tryz.func70, Tryz.ntmps70
        go_wp2_with (first
          | (go_at_call_of 103 (a1); refine HCK.out.mono ?_; rintro e w1 ⟨rfl, rfl⟩)
          | (go_at_call_of 103 (a2); refine HCK2.out.mono ?_; rintro e w1 ⟨rfl, rfl⟩)
          | (go_at_call 104; refine HG.out.mono ?_; rintro e w1 ⟨a3, c3, rfl, hN3, hb1⟩; have HN3 := Lib.hid hN3; have hz1 := hb1.size; simp at hz1; clear hN3)
          | (go_at_call 106; refine (ratOne _).mono ?_; rintro e w2 ⟨g, rfl, hN4, hb2⟩; have HN3' := Lib.hid (HN3.out.same hb2).ru; have HN4 := Lib.hid hN4; have hz2 := hb2.size; clear hN4)
          | (go_at_call 105; refine (HS.out _ _ _ HN3'.out HN4.out).mono ?_; rintro e w3 ⟨rfl, hb3⟩))
        go_ret
        exact ⟨ret_int Hres.out.symm, hb0.trans ((hb1.mono (by simp)).trans ((hb2.mono (by omega)).trans (hb3.mono (by omega))))⟩
    · have hr : ratChk true (lim 0) (lim n) = 8 := by unfold ratChk; rw [if_pos (.inr (.inr (.inr (.inl ⟨rfl, lim_zero⟩))))]
      have Hr := Lib.hid hr
      clear hr hres hx hy hx' hy' hC1 hC2 hlx hly hgg hG hSm HG
      rw [hl0] at hW0 HCK ⊢
      clear hl0
      subst hW0
      go_enter Tryz.func70, Tryz.ntmps70
      go_wp2_with (first
      | (go_at_call_of 103 (a1); refine HCK.out.mono ?_; rintro e w1 ⟨rfl, rfl⟩)
      | (go_at_call_of 103 (a2); refine HCK2.out.mono ?_; rintro e w1 ⟨rfl, rfl⟩))
      go_ret
      exact ⟨ret_int Hr.out.symm, hb0⟩
  · have hml : ((lim m).length : Int) ≠ 0 := fun e => hm0 (lim_eq_nil.1 (List.eq_nil_of_length_eq_zero (by omega)))
    have hmb : (((lim m).length : Int) == 0) = false := beq_eq_false_iff_ne.2 hml
    have hm1 : ¬ lim m = [] := fun e => hm0 (lim_eq_nil.1 e)
    have hres2 := hres (fun h => hm0 h.2)
    have Hres := Lib.hid hres2
    clear hres hres2 hx hy hx' hy' hC1 hC2 hlx hly hgg hG
    cases neg
    · subst hW0
      by_cases hg1 : gg = 1
      · subst hg1
        have hd : decide (1 = 1) = true := rfl
        rw [hd] at hSm
        have HS := Lib.hid hSm
        clear hSm hd
        go_enter Tryz.func70, Tryz.ntmps70
        go_wp2_with (first
          | (go_at_call_of 103 (a1); refine HCK.out.mono ?_; rintro e w1 ⟨rfl, rfl⟩)
          | (go_at_call_of 103 (a2); refine HCK2.out.mono ?_; rintro e w1 ⟨rfl, rfl⟩)
          | (go_at_call 104; refine HG.out.mono ?_; rintro e w1 ⟨a3, c3, rfl, hN3, hb1⟩; have HN3 := Lib.hid hN3; have hz1 := hb1.size; simp at hz1; clear hN3)
          | (go_at_call 106; refine (ratOne _).mono ?_; rintro e w2 ⟨g, rfl, hN4, hb2⟩; have HN3' := Lib.hid (HN3.out.same hb2).ru; have HN4 := Lib.hid hN4; have hz2 := hb2.size; clear hN4)
          | (go_at_call 105; refine (HS.out _ _ _ HN3'.out HN4.out).mono ?_; rintro e w3 ⟨rfl, hb3⟩))
        go_ret
        exact ⟨ret_int (by rw [Hres.out]; rfl), hb0.trans ((hb1.mono (by simp)).trans ((hb2.mono (by omega)).trans (hb3.mono (by omega))))⟩
      · have hd : decide (gg = 1) = false := decide_eq_false hg1
        rw [hd] at hSm
        rw [if_neg hg1] at Hres
        have HS := Lib.hid hSm
        clear hSm hd hg1
        go_enter Tryz.func70, Tryz.ntmps70
        go_wp2_with (first
          | (go_at_call_of 103 (a1); refine HCK.out.mono ?_; rintro e w1 ⟨rfl, rfl⟩)
          | (go_at_call_of 103 (a2); refine HCK2.out.mono ?_; rintro e w1 ⟨rfl, rfl⟩)
          | (go_at_call 104; refine HG.out.mono ?_; rintro e w1 ⟨a3, c3, rfl, hN3, hb1⟩; have HN3 := Lib.hid hN3; have hz1 := hb1.size; simp at hz1; clear hN3)
          | (go_at_call 106; refine (ratOne _).mono ?_; rintro e w2 ⟨g, rfl, hN4, hb2⟩; have HN3' := Lib.hid (HN3.out.same hb2).ru; have HN4 := Lib.hid hN4; have hz2 := hb2.size; clear hN4)
          | (go_at_call 105; refine (HS.out _ _ _ HN3'.out HN4.out).mono ?_; rintro e w3 ⟨rfl, hb3⟩))
        go_ret
        exact ⟨ret_int Hres.out.symm, hb0.trans ((hb1.mono (by simp)).trans ((hb2.mono (by omega)).trans (hb3.mono (by omega))))⟩
    · subst hW0
      by_cases hg1 : gg = 1
      · subst hg1
        have hd : decide (1 = 1) = true := rfl
        rw [hd] at hSm
        have HS := Lib.hid hSm
        clear hSm hd
        go_enter Tryz.func70, Tryz.ntmps70
        go_wp2_with (first
          | (go_at_call_of 103 (a1); refine HCK.out.mono ?_; rintro e w1 ⟨rfl, rfl⟩)
          | (go_at_call_of 103 (a2); refine HCK2.out.mono ?_; rintro e w1 ⟨rfl, rfl⟩)
          | (go_at_call 104; refine HG.out.mono ?_; rintro e w1 ⟨a3, c3, rfl, hN3, hb1⟩; have HN3 := Lib.hid hN3; have hz1 := hb1.size; simp at hz1; clear hN3)
          | (go_at_call 106; refine (ratOne _).mono ?_; rintro e w2 ⟨g, rfl, hN4, hb2⟩; have HN3' := Lib.hid (HN3.out.same hb2).ru; have HN4 := Lib.hid hN4; have hz2 := hb2.size; clear hN4)
          | (go_at_call 105; refine (HS.out _ _ _ HN3'.out HN4.out).mono ?_; rintro e w3 ⟨rfl, hb3⟩))
        go_ret
        exact ⟨ret_int (by rw [Hres.out]; rfl), hb0.trans ((hb1.mono (by simp)).trans ((hb2.mono (by omega)).trans (hb3.mono (by omega))))⟩
      · have hd : decide (gg = 1) = false := decide_eq_false hg1
        rw [hd] at hSm
        rw [if_neg hg1] at Hres
        have HS := Lib.hid hSm
        clear hSm hd hg1
        go_enter Tryz.func70, Tryz.ntmps70
        go_wp2_with (first
          | (go_at_call_of 103 (a1); refine HCK.out.mono ?_; rintro e w1 ⟨rfl, rfl⟩)
          | (go_at_call_of 103 (a2); refine HCK2.out.mono ?_; rintro e w1 ⟨rfl, rfl⟩)
          | (go_at_call 104; refine HG.out.mono ?_; rintro e w1 ⟨a3, c3, rfl, hN3, hb1⟩; have HN3 := Lib.hid hN3; have hz1 := hb1.size; simp at hz1; clear hN3)
          | (go_at_call 106; refine (ratOne _).mono ?_; rintro e w2 ⟨g, rfl, hN4, hb2⟩; have HN3' := Lib.hid (HN3.out.same hb2).ru; have HN4 := Lib.hid hN4; have hz2 := hb2.size; clear hN4)
          | (go_at_call 105; refine (HS.out _ _ _ HN3'.out HN4.out).mono ?_; rintro e w3 ⟨rfl, hb3⟩))
        go_ret
        exact ⟨ret_int Hres.out.symm, hb0.trans ((hb1.mono (by simp)).trans ((hb2.mono (by omega)).trans (hb3.mono (by omega))))⟩
end Go.Proofs.YtogngcbflhdadaaGreat

/- Ratios: the products of a pair, of the program. -/
namespace Go.Proofs.YtogngcbflhdadaaGreat
open Go Go.RowKit Go.Shelf Limb

/-- The products of a pair, or an error. -/
def CrossGives (p q : Nat) (w : World) (e : Ending) (w' : World) : Prop :=
  ∃ u v, (((lim p).length ≤ 96 ∧ (lim q).length ≤ 96 ∧ NumAt w' u p ∧ NumAt w' v q ∧ e = .returned (.tuple #[u, v, .int .i64 0])) ∨ (¬ ((lim p).length ≤ 96 ∧ (lim q).length ≤ 96) ∧ e = .returned (.tuple #[u, v, .int .i64 30]))) ∧ Below w.heap.size w w'
set_option maxHeartbeats 2000000 in
theorem ratCrossed (neg1 neg2 : Bool) (v1 v2 v3 v4 : Value) (m1 n1 m2 n2 : Nat) (w : World) (h1 : NumAt w v1 m1) (h2 : NumAt w v2 n1) (h3 : NumAt w v3 m2) (h4 : NumAt w v4 n2) (l1 : (lim m1).length ≤ 96) (l2 : (lim n1).length ≤ 96) (l3 : (lim m2).length ≤ 96) (l4 : (lim n2).length ≤ 96) :
    Calls Tryz.prog 72 #[.agg #[.bool neg1, v1, v2, .bool neg2, v3, v4]] w (CrossGives (m1 * n2) (m2 * n1) w) := by
  obtain ⟨a1, c1, rfl⟩ := h1.shape
  obtain ⟨a2, c2, rfl⟩ := h2.shape
  obtain ⟨a3, c3, rfl⟩ := h3.shape
  obtain ⟨a4, c4, rfl⟩ := h4.shape
  obtain ⟨W0, hW0⟩ : ∃ W0, W0 = w.alloc (.cells #[.bool neg1, .slice a1 (lim m1).length c1, .slice a2 (lim n1).length c2, .bool neg2, .slice a3 (lim m2).length c3, .slice a4 (lim n2).length c4] 104) := ⟨_, rfl⟩
  have hb0 : Below w.heap.size w W0 := by rw [hW0]; exact below_new w _
  have hgA : W0.heap[w.heap.size]? = some (.cells #[.bool neg1, .slice a1 (lim m1).length c1, .slice a2 (lim n1).length c2, .bool neg2, .slice a3 (lim m2).length c3, .slice a4 (lim n2).length c4] 104 (0, 0)) := by rw [hW0]; exact box_new w _
  have hz0 : W0.heap.size = w.heap.size + 1 := by rw [hW0]; simp
  have hM1 := natMul _ _ m1 n2 W0 (h1.same hb0) (h4.same hb0) l1 l4
  have hM2 := fun W (hW : Below W0.heap.size W0 W) => natMul _ _ m2 n1 W ((h3.same hb0).same hW) ((h2.same hb0).same hW) l3 l2
  have hcell : ∀ W, Below W0.heap.size W0 W → (∀ i, W.cell? ⟨w.heap.size, i, none⟩ = (#[.bool neg1, .slice a1 (lim m1).length c1, .slice a2 (lim n1).length c2, .bool neg2, .slice a3 (lim m2).length c3, .slice a4 (lim n2).length c4] : Array Value)[i]?) := fun W hW => (own_box hW (by omega) hgA).2.1
  obtain ⟨p, hp⟩ : ∃ p, m1 * n2 = p := ⟨_, rfl⟩
  obtain ⟨q, hq⟩ : ∃ q, m2 * n1 = q := ⟨_, rfl⟩
  rw [hp] at hM1 ⊢
  rw [hq] at hM2 ⊢
  generalize (lim m1).length = L1 at *
  generalize (lim n1).length = L2 at *
  generalize (lim m2).length = L3 at *
  generalize (lim n2).length = L4 at *
  have HM1 := Lib.hid hM1; have HM2 := Lib.hid hM2; have HC := Lib.hid hcell
  clear hM1 hM2 hcell hp hq h1 h2 h3 h4 hgA hz0
  by_cases hl1 : (lim p).length ≤ 96
  · by_cases hl2 : (lim q).length ≤ 96
    · subst hW0
      go_enter Tryz.func72, Tryz.ntmps72
      go_wp2_with (first
        | (go_at_call 107; have := hbb1; refine (HM2.out _ hbb1).mono ?_; rintro e w2 ⟨hf1, hf2, hf3⟩; obtain ⟨a6, c6, rfl, hN6⟩ := hf1 hl2; have HN6 := Lib.hid hN6; have HN5' := Lib.hid (HN5.out.same hf3); have hbb2 := hbb1.trans (hf3.mono hz1); clear hN6 hf1 hf2)
        | (go_at_call 107; refine HM1.out.mono ?_; rintro e w1 ⟨hf1, hf2, hf3⟩; obtain ⟨a5, c5, rfl, hN5⟩ := hf1 hl1; have HN5 := Lib.hid hN5; have hbb1 := hf3; have hz1 := hf3.size; have hcx := HC.out _ hbb1; clear hN5 hf1 hf2 hf3))
      go_ret3
      exact ⟨_, _, .inl ⟨hl1, hl2, HN5'.out, HN6.out, rfl⟩, hb0.trans (hbb2.mono (by simp))⟩
    · subst hW0
      go_enter Tryz.func72, Tryz.ntmps72
      go_wp2_with (first
        | (go_at_call 107; have := hbb1; refine (HM2.out _ hbb1).mono ?_; rintro e w2 ⟨hf1, hf2, hf3⟩; have he := hf2 (by omega); subst he; have hbb2 := hbb1.trans (hf3.mono hz1); clear hf1 hf2)
        | (go_at_call 107; refine HM1.out.mono ?_; rintro e w1 ⟨hf1, hf2, hf3⟩; obtain ⟨a5, c5, rfl, hN5⟩ := hf1 hl1; have hbb1 := hf3; have hz1 := hf3.size; have hcx := HC.out _ hbb1; clear hN5 hf1 hf2 hf3))
      go_ret3
      exact ⟨_, _, .inr ⟨fun h => hl2 h.2, rfl⟩, hb0.trans (hbb2.mono (by simp))⟩
  · subst hW0
    go_enter Tryz.func72, Tryz.ntmps72
    go_wp2_with (first
      | (go_at_call 107; refine HM1.out.mono ?_; rintro e w1 ⟨hf1, hf2, hf3⟩; have he := hf2 (by omega); subst he; have hbb1 := hf3; clear hf1 hf2 hf3))
    go_ret3
    exact ⟨_, _, .inr ⟨fun h => hl1 h.1, rfl⟩, hb0.trans (hbb1.mono (by simp))⟩
end Go.Proofs.YtogngcbflhdadaaGreat

/- Ratios: Cmp of the program. -/
namespace Go.Proofs.YtogngcbflhdadaaGreat
open Go Go.RowKit Go.Shelf Limb

/-- The comparison of two ratios, and its error. -/
def cmpRat (neg1 neg2 : Bool) (xs1 ys1 xs2 ys2 : List Int) : Int × Int :=
  if ratChk neg1 xs1 ys1 ≠ 0 ∨ ratChk neg2 xs2 ys2 ≠ 0 then (0, 8)
  else if sideOf neg1 xs1.length ≠ sideOf neg2 xs2.length ∨ sideOf neg1 xs1.length = 0 then (max (-1) (min 1 (sideOf neg1 xs1.length - sideOf neg2 xs2.length)), 0)
  else if (lim ((val xs1).toNat * (val ys2).toNat)).length ≤ 96 ∧ (lim ((val xs2).toNat * (val ys1).toNat)).length ≤ 96 then (sideOf neg1 xs1.length * cmpN ((val xs1).toNat * (val ys2).toNat) ((val xs2).toNat * (val ys1).toNat), 0)
  else (0, 30)
theorem side_range (neg : Bool) (n : Nat) : sideOf neg n = -1 ∨ sideOf neg n = 0 ∨ sideOf neg n = 1 := by
  unfold sideOf
  split
  · exact .inr (.inl rfl)
  · split
    · exact .inl rfl
    · exact .inr (.inr rfl)
theorem cmpN_range (m n : Nat) : cmpN m n = -1 ∨ cmpN m n = 0 ∨ cmpN m n = 1 := by
  unfold cmpN
  split
  · exact .inl rfl
  · split
    · exact .inr (.inr rfl)
    · exact .inr (.inl rfl)
def CmpRGives (r : Int × Int) (w : World) (e : Ending) (w' : World) : Prop := e = .returned (.tuple #[.int .i64 r.1, .int .i64 r.2]) ∧ Below w.heap.size w w'
set_option maxHeartbeats 8000000 in
set_option maxRecDepth 100000 in
theorem ratCmp (S1 S2 S3 S4 : Nat → Prop) (neg1 neg2 : Bool) (v1 v2 v3 v4 : Value) (xs1 ys1 xs2 ys2 : List Int) (w : World) (h1 : RU S1 w v1 xs1) (h2 : RU S2 w v2 ys1) (h3 : RU S3 w v3 xs2) (h4 : RU S4 w v4 ys2) :
    Calls Tryz.prog 37 #[.agg #[.bool neg1, v1, v2], .agg #[.bool neg2, v3, v4]] w (CmpRGives (cmpRat neg1 neg2 xs1 ys1 xs2 ys2) w) := by
  have hl1 := RU.lim h1
  have hl2 := RU.lim h2
  have hl3 := RU.lim h3
  have hl4 := RU.lim h4
  obtain ⟨a1, c1, rfl, -, -⟩ := RSl.shape h1
  obtain ⟨a2, c2, rfl, -, -⟩ := RSl.shape h2
  obtain ⟨a3, c3, rfl, -, -⟩ := RSl.shape h3
  obtain ⟨a4, c4, rfl, -, -⟩ := RSl.shape h4
  obtain ⟨W0, hW0⟩ : ∃ W0, W0 = (w.alloc (.cells #[.bool neg1, .slice a1 xs1.length c1, .slice a2 ys1.length c2] 54)).alloc (.cells #[.bool neg2, .slice a3 xs2.length c3, .slice a4 ys2.length c4] 54) := ⟨_, rfl⟩
  have hb0 : Below w.heap.size w W0 := by rw [hW0]; exact (below_new w _).alloc (by simp) _
  have hz0 : W0.heap.size = w.heap.size + 2 := by rw [hW0]; simp
  have hgA : W0.heap[w.heap.size]? = some (.cells #[.bool neg1, .slice a1 xs1.length c1, .slice a2 ys1.length c2] 54 (0, 0)) := by rw [hW0]; exact box_old _ (box_new w _)
  have hgB : W0.heap[w.heap.size + 1]? = some (.cells #[.bool neg2, .slice a3 xs2.length c3, .slice a4 ys2.length c4] 54 (0, 0)) := by rw [hW0]; simpa using box_new (w.alloc (.cells #[.bool neg1, .slice a1 xs1.length c1, .slice a2 ys1.length c2] 54)) (.cells #[.bool neg2, .slice a3 xs2.length c3, .slice a4 ys2.length c4] 54)
  have hcell : ∀ W, Below W0.heap.size W0 W → (∀ i, W.cell? ⟨w.heap.size, i, none⟩ = (#[.bool neg1, .slice a1 xs1.length c1, .slice a2 ys1.length c2] : Array Value)[i]?) ∧ (∀ i, W.cell? ⟨w.heap.size + 1, i, none⟩ = (#[.bool neg2, .slice a3 xs2.length c3, .slice a4 ys2.length c4] : Array Value)[i]?) := fun W hW => ⟨(own_box hW (by omega) hgA).2.1, (own_box hW (by omega) hgB).2.1⟩
  have hCk1 := ratCheck S1 S2 neg1 _ _ xs1 ys1 W0 (h1.below hb0) (h2.below hb0)
  have hCk2 := fun W (hW : Below W0.heap.size W0 W) => ratCheck S3 S4 neg2 _ _ xs2 ys2 W ((h3.below hb0).below hW) ((h4.below hb0).below hW)
  obtain ⟨C1, hC1⟩ : ∃ C1, ratChk neg1 xs1 ys1 = C1 := ⟨_, rfl⟩
  obtain ⟨C2, hC2⟩ : ∃ C2, ratChk neg2 xs2 ys2 = C2 := ⟨_, rfl⟩
  rw [hC1] at hCk1
  rw [hC2] at hCk2
  have HC := Lib.hid hcell
  have HK1 := Lib.hid hCk1; have HK2 := Lib.hid hCk2
  clear hCk1 hCk2 hcell
  by_cases k1 : C1 = 0
  case neg =>
    have hr : cmpRat neg1 neg2 xs1 ys1 xs2 ys2 = (0, 8) := by unfold cmpRat; rw [if_pos (.inl (by rw [hC1]; exact k1))]
    rw [hr]
    have hcb : (C1 != 0) = true := bne_iff_ne.2 k1
    clear hr hC1 hC2 k1 h1 h2 h3 h4 hl1 hl2 hl3 hl4 hgA hgB hz0 HC
    subst hW0
    go_enter Tryz.func37, Tryz.ntmps37
    go_wp2_with (go_at_call 70; refine HK1.out.mono ?_; rintro e w1 ⟨rfl, hb1⟩)
    go_ret2
    exact ⟨rfl, hb0.trans (hb1.mono (by simp; omega))⟩
  subst k1
  by_cases k2 : C2 = 0
  case neg =>
    have hr : cmpRat neg1 neg2 xs1 ys1 xs2 ys2 = (0, 8) := by unfold cmpRat; rw [if_pos (.inr (by rw [hC2]; exact k2))]
    rw [hr]
    have hcb : (C2 != 0) = true := bne_iff_ne.2 k2
    clear hr hC1 hC2 k2 h1 h2 h3 h4 hl1 hl2 hl3 hl4 hgA hgB
    subst hW0
    go_enter Tryz.func37, Tryz.ntmps37
    go_wp2_with (first
      | (go_at_call 70; have := hbb1; refine (HK2.out _ hbb1).mono ?_; rintro e w2 ⟨rfl, hb2⟩; have hbb2 := hbb1.trans (hb2.mono hz1))
      | (go_at_call 70; refine HK1.out.mono ?_; rintro e w1 ⟨rfl, hbb1⟩; have hz1 := hbb1.size; obtain ⟨cA, cB⟩ := HC.out _ hbb1))
    go_ret2
    exact ⟨rfl, hb0.trans (hbb2.mono (by simp; omega))⟩
  subst k2
  obtain ⟨m1, n1, rfl, rfl, p1, p2, p3, -, -⟩ := ratChk_valid hl1 hl2 hC1
  obtain ⟨m2, n2, rfl, rfl, p4, p5, p6, -, -⟩ := ratChk_valid hl3 hl4 hC2
  have hcr : cmpRat neg1 neg2 (lim m1) (lim n1) (lim m2) (lim n2) = if sideOf neg1 (lim m1).length ≠ sideOf neg2 (lim m2).length ∨ sideOf neg1 (lim m1).length = 0 then (max (-1) (min 1 (sideOf neg1 (lim m1).length - sideOf neg2 (lim m2).length)), 0) else if (lim (m1 * n2)).length ≤ 96 ∧ (lim (m2 * n1)).length ≤ 96 then (sideOf neg1 (lim m1).length * cmpN (m1 * n2) (m2 * n1), 0) else (0, 30) := by
    unfold cmpRat
    rw [if_neg (by rw [hC1, hC2]; simp)]
    simp only [val_lim, Int.toNat_natCast]
  have hX := fun W (hW : Below W0.heap.size W0 W) => ratCrossed neg1 neg2 _ _ _ _ m1 n1 m2 n2 W (NumAt.of ((h1.below hb0).below hW)) (NumAt.of ((h2.below hb0).below hW)) (NumAt.of ((h3.below hb0).below hW)) (NumAt.of ((h4.below hb0).below hW)) p1 p2 p4 p5
  have hCm := fun W u v (k1 : NumAt W u (m1 * n2)) (k2 : NumAt W v (m2 * n1)) (l1 : (lim (m1 * n2)).length ≤ 96) (l2 : (lim (m2 * n1)).length ≤ 96) => natCmp u v _ _ W k1 k2 l1 l2
  have hs1 := side_range neg1 (lim m1).length
  have hs2 := side_range neg2 (lim m2).length
  have hSd1 := fun W => ratSide neg1 a1 (lim m1).length c1 (.slice a2 (lim n1).length c2) W
  have hSd2 := fun W => ratSide neg2 a3 (lim m2).length c3 (.slice a4 (lim n2).length c4) W
  obtain ⟨s, hs⟩ : ∃ s, sideOf neg1 (lim m1).length = s := ⟨_, rfl⟩
  obtain ⟨t, ht⟩ : ∃ t, sideOf neg2 (lim m2).length = t := ⟨_, rfl⟩
  obtain ⟨p, hp⟩ : ∃ p, m1 * n2 = p := ⟨_, rfl⟩
  obtain ⟨q, hq⟩ : ∃ q, m2 * n1 = q := ⟨_, rfl⟩
  rw [hs] at hs1 hSd1 hcr
  rw [ht] at hs2 hSd2 hcr
  rw [hp, hq] at hcr hX hCm
  rw [hcr]
  clear hcr hs ht hp hq h1 h2 h3 h4 hl1 hl2 hl3 hl4 hC1 hC2 p1 p2 p3 p4 p5 p6 hgA hgB
  generalize (lim m1).length = L1 at *
  generalize (lim n1).length = L2 at *
  generalize (lim m2).length = L3 at *
  generalize (lim n2).length = L4 at *
  obtain ⟨V0, hV0⟩ : ∃ V0, V0 = W0 := ⟨_, rfl⟩
  have hC6 : ∀ W, Below (w.heap.size + 2) V0 W → W.cell? ⟨w.heap.size, 0, none⟩ = some (.bool neg1) ∧ W.cell? ⟨w.heap.size, 1, none⟩ = some (.slice a1 L1 c1) ∧ W.cell? ⟨w.heap.size, 2, none⟩ = some (.slice a2 L2 c2) ∧ W.cell? ⟨w.heap.size + 1, 0, none⟩ = some (.bool neg2) ∧ W.cell? ⟨w.heap.size + 1, 1, none⟩ = some (.slice a3 L3 c3) ∧ W.cell? ⟨w.heap.size + 1, 2, none⟩ = some (.slice a4 L4 c4) := fun W hW => by
    obtain ⟨k1, k2⟩ := HC.out W (by rw [hz0, ← hV0]; exact hW)
    exact ⟨k1 0, k1 1, k1 2, k2 0, k2 1, k2 2⟩
  have HC6 := Lib.hid hC6
  clear hC6
  have hVV : ∀ W, Below W0.heap.size W0 W → Below (w.heap.size + 2) V0 W := fun W hW => by rw [hz0] at hW; rw [hV0]; exact hW
  have hVW : ∀ W, Below (w.heap.size + 2) V0 W → Below W0.heap.size W0 W := fun W hW => by rw [hz0, ← hV0]; exact hW
  have hZV : ∀ W, Below (w.heap.size + 2) V0 W → w.heap.size + 2 ≤ W.heap.size := fun W hW => by have := hW.size; rw [hV0, hz0] at this; exact this
  have hBW : ∀ W, Below (w.heap.size + 2) V0 W → Below w.heap.size w W := fun W hW => hb0.trans ((hVW W hW).mono (by omega))
  have HBW := Lib.hid hBW
  clear hBW
  have HVV := Lib.hid hVV; have HVW := Lib.hid hVW; have HZV := Lib.hid hZV
  clear hVV hVW hZV hV0
  have HX := Lib.hid hX; have HCm := Lib.hid hCm; have HS1 := Lib.hid hSd1; have HS2 := Lib.hid hSd2
  clear hX hCm hSd1 hSd2
  by_cases hst : s = t
  case neg =>
    have hcb : (s != t) = true := bne_iff_ne.2 hst
    have hr : (if s ≠ t ∨ s = 0 then (max (-1) (min 1 (s - t)), (0 : Int)) else if (lim p).length ≤ 96 ∧ (lim q).length ≤ 96 then (s * cmpN p q, 0) else (0, 30)) = (max (-1) (min 1 (s - t)), 0) := if_pos (.inl hst)
    rw [hr]
    have hw : IntKind.i64.wrap (s - t) = s - t := by rcases hs1 with rfl | rfl | rfl <;> rcases hs2 with rfl | rfl | rfl <;> rfl
    clear hr hst HX HCm
    subst hW0
    go_enter Tryz.func37, Tryz.ntmps37
    go_wp2_with (first
      | (go_at_call 70; have := hbb1; refine (HK2.out _ hbb1).mono ?_; rintro e w2 ⟨rfl, hb2⟩; have hbb2 := HVV.out _ (hbb1.trans (hb2.mono hz1)); have hz2 := HZV.out _ hbb2; obtain ⟨cA2, cB2⟩ := HC.out _ (HVW.out _ hbb2); clear this hb2)
      | (go_at_call 70; refine HK1.out.mono ?_; rintro e w1 ⟨rfl, hbb1⟩; have hz1 := hbb1.size; obtain ⟨cA, cB⟩ := HC.out _ hbb1))
    go_region_held3 (fun w' => w'.cell? ⟨w.heap.size, 0, none⟩ = some (.bool neg1) ∧ w'.cell? ⟨w.heap.size, 1, none⟩ = some (.slice a1 L1 c1) ∧ w'.cell? ⟨w.heap.size, 2, none⟩ = some (.slice a2 L2 c2) ∧ w'.cell? ⟨w.heap.size + 1, 0, none⟩ = some (.bool neg2) ∧ w'.cell? ⟨w.heap.size + 1, 1, none⟩ = some (.slice a3 L3 c3) ∧ w'.cell? ⟨w.heap.size + 1, 2, none⟩ = some (.slice a4 L4 c4))
      ((refine HC6.out _ ?_; repeat (first | (with_reducible assumption) | (with_reducible refine Below.setCell (p := ⟨_, _, none⟩) ?_ ?_ _) | (with_reducible refine Below.alloc ?_ ?_ _) | (with_reducible refine Below.drew ?_) | (simp; omega))))
      (first
        | (go_simp; go_at_call_of 71 (a1); refine (HS1.out _).mono ?_; rintro e w5 ⟨rfl, hb5⟩; have hbw5 : Below (w.heap.size + 2) V0 w5 := Below.trans (by repeat (first | (with_reducible assumption) | (with_reducible refine Below.setCell (p := ⟨_, _, none⟩) ?_ ?_ _) | (with_reducible refine Below.alloc ?_ ?_ _) | (with_reducible refine Below.drew ?_) | (simp; omega))) (hb5.mono (by first | (with_reducible assumption) | (simp; omega))); have hzw5 : w.heap.size + 2 ≤ w5.heap.size := HZV.out _ hbw5; (first | (have hPP := own_box hb5 (g := w2.heap.size) (by simp) (box_new w2.drew _); obtain ⟨gP, cP, fP⟩ := hPP) | skip))
        | (go_simp; go_at_call_of 71 (a3); refine (HS2.out _).mono ?_; rintro e w6 ⟨rfl, hb6⟩; have hbw6 : Below (w.heap.size + 2) V0 w6 := Below.trans (by repeat (first | (with_reducible assumption) | (with_reducible refine Below.setCell (p := ⟨_, _, none⟩) ?_ ?_ _) | (with_reducible refine Below.alloc ?_ ?_ _) | (with_reducible refine Below.drew ?_) | (simp; omega))) (hb6.mono (by first | (with_reducible assumption) | (simp; omega))); have hzw6 : w.heap.size + 2 ≤ w6.heap.size := HZV.out _ hbw6; (first | (have hPP := own_box hb6 (size_of_box gP) gP; obtain ⟨gQ, cQ, fQ⟩ := hPP) | (have hPP := own_box hb6 (g := w5.heap.size) (by simp) (box_new w5 _); obtain ⟨gQ, cQ, fQ⟩ := hPP) | skip)))
    all_goals
      go_wp2
      go_ret2
      exact ⟨rfl, HBW.out _ (by repeat (first | (with_reducible assumption) | (with_reducible refine Below.setCell (p := ⟨_, _, none⟩) ?_ ?_ _) | (with_reducible refine Below.alloc ?_ ?_ _) | (with_reducible refine Below.drew ?_) | (simp; omega)))⟩
  subst hst
  by_cases hs0 : s = 0
  · subst hs0
    have hr : (if (0 : Int) ≠ 0 ∨ (0 : Int) = 0 then (max (-1) (min 1 ((0 : Int) - 0)), (0 : Int)) else if (lim p).length ≤ 96 ∧ (lim q).length ≤ 96 then (0 * cmpN p q, 0) else (0, 30)) = (0, 0) := by rw [if_pos (.inr rfl)]; rfl
    rw [hr]
    clear hr HX HCm hs1 hs2
    subst hW0
    go_enter Tryz.func37, Tryz.ntmps37
    go_wp2_with (first
      | (go_at_call 70; have := hbb1; refine (HK2.out _ hbb1).mono ?_; rintro e w2 ⟨rfl, hb2⟩; have hbb2 := HVV.out _ (hbb1.trans (hb2.mono hz1)); have hz2 := HZV.out _ hbb2; obtain ⟨cA2, cB2⟩ := HC.out _ (HVW.out _ hbb2); clear this hb2)
      | (go_at_call 70; refine HK1.out.mono ?_; rintro e w1 ⟨rfl, hbb1⟩; have hz1 := hbb1.size; obtain ⟨cA, cB⟩ := HC.out _ hbb1))
    go_region_held3 (fun w' => w'.cell? ⟨w.heap.size, 0, none⟩ = some (.bool neg1) ∧ w'.cell? ⟨w.heap.size, 1, none⟩ = some (.slice a1 L1 c1) ∧ w'.cell? ⟨w.heap.size, 2, none⟩ = some (.slice a2 L2 c2) ∧ w'.cell? ⟨w.heap.size + 1, 0, none⟩ = some (.bool neg2) ∧ w'.cell? ⟨w.heap.size + 1, 1, none⟩ = some (.slice a3 L3 c3) ∧ w'.cell? ⟨w.heap.size + 1, 2, none⟩ = some (.slice a4 L4 c4))
      ((refine HC6.out _ ?_; repeat (first | (with_reducible assumption) | (with_reducible refine Below.setCell (p := ⟨_, _, none⟩) ?_ ?_ _) | (with_reducible refine Below.alloc ?_ ?_ _) | (with_reducible refine Below.drew ?_) | (simp; omega))))
      (first
        | (go_simp; go_at_call_of 71 (a1); refine (HS1.out _).mono ?_; rintro e w5 ⟨rfl, hb5⟩; have hbw5 : Below (w.heap.size + 2) V0 w5 := Below.trans (by repeat (first | (with_reducible assumption) | (with_reducible refine Below.setCell (p := ⟨_, _, none⟩) ?_ ?_ _) | (with_reducible refine Below.alloc ?_ ?_ _) | (with_reducible refine Below.drew ?_) | (simp; omega))) (hb5.mono (by first | (with_reducible assumption) | (simp; omega))); have hzw5 : w.heap.size + 2 ≤ w5.heap.size := HZV.out _ hbw5; (first | (have hPP := own_box hb5 (g := w2.heap.size) (by simp) (box_new w2.drew _); obtain ⟨gP, cP, fP⟩ := hPP) | skip))
        | (go_simp; go_at_call_of 71 (a3); refine (HS2.out _).mono ?_; rintro e w6 ⟨rfl, hb6⟩; have hbw6 : Below (w.heap.size + 2) V0 w6 := Below.trans (by repeat (first | (with_reducible assumption) | (with_reducible refine Below.setCell (p := ⟨_, _, none⟩) ?_ ?_ _) | (with_reducible refine Below.alloc ?_ ?_ _) | (with_reducible refine Below.drew ?_) | (simp; omega))) (hb6.mono (by first | (with_reducible assumption) | (simp; omega))); have hzw6 : w.heap.size + 2 ≤ w6.heap.size := HZV.out _ hbw6; (first | (have hPP := own_box hb6 (size_of_box gP) gP; obtain ⟨gQ, cQ, fQ⟩ := hPP) | (have hPP := own_box hb6 (g := w5.heap.size) (by simp) (box_new w5 _); obtain ⟨gQ, cQ, fQ⟩ := hPP) | skip)))
    all_goals
      go_wp2
      go_ret2
      exact ⟨rfl, HBW.out _ (by repeat (first | (with_reducible assumption) | (with_reducible refine Below.setCell (p := ⟨_, _, none⟩) ?_ ?_ _) | (with_reducible refine Below.alloc ?_ ?_ _) | (with_reducible refine Below.drew ?_) | (simp; omega)))⟩
  have hsb : (s == 0) = false := beq_eq_false_iff_ne.2 hs0
  have hX2 : ∀ W, Below (w.heap.size + 2) V0 W → Calls Tryz.prog 72 #[.agg #[.bool neg1, .slice a1 L1 c1, .slice a2 L2 c2, .bool neg2, .slice a3 L3 c3, .slice a4 L4 c4]] W (CrossGives p q W) := fun W hW => HX.out W (HVW.out W hW)
  have HX2 := Lib.hid hX2
  clear hX2 HX
  by_cases hfit : (lim p).length ≤ 96 ∧ (lim q).length ≤ 96
  · have hr : (if s ≠ s ∨ s = 0 then (max (-1) (min 1 (s - s)), (0 : Int)) else if (lim p).length ≤ 96 ∧ (lim q).length ≤ 96 then (s * cmpN p q, 0) else (0, 30)) = (s * cmpN p q, 0) := by
      rw [if_neg (by simp [hs0]), if_pos hfit]
    rw [hr]
    have hcr := cmpN_range p q
    have hCq := fun W u v k1 k2 => HCm.out W u v k1 k2 hfit.1 hfit.2
    obtain ⟨cc, hcc⟩ : ∃ cc, cmpN p q = cc := ⟨_, rfl⟩
    rw [hcc] at hcr hCq ⊢
    have hw : IntKind.i64.wrap (s * cc) = s * cc := by rcases hs1 with rfl | rfl | rfl <;> rcases hcr with rfl | rfl | rfl <;> rfl
    have HCq := Lib.hid hCq; have Hfit := Lib.hid hfit
    clear hr hCq HCm hcc hcr hs1 hs2 hs0 hfit
    subst hW0
    go_enter Tryz.func37, Tryz.ntmps37
    go_wp2_with (first
      | (go_at_call 70; have := hbb1; refine (HK2.out _ hbb1).mono ?_; rintro e w2 ⟨rfl, hb2⟩; have hbb2 := HVV.out _ (hbb1.trans (hb2.mono hz1)); have hz2 := HZV.out _ hbb2; obtain ⟨cA2, cB2⟩ := HC.out _ (HVW.out _ hbb2); clear this hb2)
      | (go_at_call 70; refine HK1.out.mono ?_; rintro e w1 ⟨rfl, hbb1⟩; have hz1 := hbb1.size; obtain ⟨cA, cB⟩ := HC.out _ hbb1))
    go_region_held3 (fun w' => w'.cell? ⟨w.heap.size, 0, none⟩ = some (.bool neg1) ∧ w'.cell? ⟨w.heap.size, 1, none⟩ = some (.slice a1 L1 c1) ∧ w'.cell? ⟨w.heap.size, 2, none⟩ = some (.slice a2 L2 c2) ∧ w'.cell? ⟨w.heap.size + 1, 0, none⟩ = some (.bool neg2) ∧ w'.cell? ⟨w.heap.size + 1, 1, none⟩ = some (.slice a3 L3 c3) ∧ w'.cell? ⟨w.heap.size + 1, 2, none⟩ = some (.slice a4 L4 c4))
      ((refine HC6.out _ ?_; repeat (first | (with_reducible assumption) | (with_reducible refine Below.setCell (p := ⟨_, _, none⟩) ?_ ?_ _) | (with_reducible refine Below.alloc ?_ ?_ _) | (with_reducible refine Below.drew ?_) | (simp; omega))))
      (first
        | (go_simp; go_at_call_of 71 (a1); refine (HS1.out _).mono ?_; rintro e w5 ⟨rfl, hb5⟩; have hbw5 : Below (w.heap.size + 2) V0 w5 := Below.trans (by repeat (first | (with_reducible assumption) | (with_reducible refine Below.setCell (p := ⟨_, _, none⟩) ?_ ?_ _) | (with_reducible refine Below.alloc ?_ ?_ _) | (with_reducible refine Below.drew ?_) | (simp; omega))) (hb5.mono (by first | (with_reducible assumption) | (simp; omega))); have hzw5 : w.heap.size + 2 ≤ w5.heap.size := HZV.out _ hbw5; (first | (have hPP := own_box hb5 (g := w2.heap.size) (by simp) (box_new w2.drew _); obtain ⟨gP, cP, fP⟩ := hPP) | skip))
        | (go_simp; go_at_call_of 71 (a3); refine (HS2.out _).mono ?_; rintro e w6 ⟨rfl, hb6⟩; have hbw6 : Below (w.heap.size + 2) V0 w6 := Below.trans (by repeat (first | (with_reducible assumption) | (with_reducible refine Below.setCell (p := ⟨_, _, none⟩) ?_ ?_ _) | (with_reducible refine Below.alloc ?_ ?_ _) | (with_reducible refine Below.drew ?_) | (simp; omega))) (hb6.mono (by first | (with_reducible assumption) | (simp; omega))); have hzw6 : w.heap.size + 2 ≤ w6.heap.size := HZV.out _ hbw6; (first | (have hPP := own_box hb6 (size_of_box gP) gP; obtain ⟨gQ, cQ, fQ⟩ := hPP) | (have hPP := own_box hb6 (g := w5.heap.size) (by simp) (box_new w5 _); obtain ⟨gQ, cQ, fQ⟩ := hPP) | skip)))
    all_goals
      go_wp2_with (first
        | (go_at_call 72; refine (HX2.out _ (by repeat (first | (with_reducible assumption) | (with_reducible refine Below.setCell (p := ⟨_, _, none⟩) ?_ ?_ _) | (with_reducible refine Below.alloc ?_ ?_ _) | (with_reducible refine Below.drew ?_) | (simp; omega)))).mono ?_; rintro e w7 ⟨u7, v7, hor, hb7⟩; have hbw7 : Below (w.heap.size + 2) V0 w7 := Below.trans (by repeat (first | (with_reducible assumption) | (with_reducible refine Below.setCell (p := ⟨_, _, none⟩) ?_ ?_ _) | (with_reducible refine Below.alloc ?_ ?_ _) | (with_reducible refine Below.drew ?_) | (simp; omega))) (hb7.mono (by first | (with_reducible assumption) | (simp; omega))); rcases hor with hor | hor; rotate_left; exact absurd Hfit.out hor.1; obtain ⟨-, -, hu7, hv7, rfl⟩ := hor; have Hu7 := Lib.hid hu7; have Hv7 := Lib.hid hv7; have hz7 : w.heap.size + 2 ≤ w7.heap.size := HZV.out _ hbw7; clear hu7 hv7)
        | (go_at_call 73; refine (HCq.out _ _ _ Hu7.out Hv7.out).mono ?_; rintro e w8 ⟨rfl, hb8⟩))
      go_ret2
      exact ⟨rfl, HBW.out _ (hbw7.trans (hb8.mono hz7))⟩
  · have hr : (if s ≠ s ∨ s = 0 then (max (-1) (min 1 (s - s)), (0 : Int)) else if (lim p).length ≤ 96 ∧ (lim q).length ≤ 96 then (s * cmpN p q, 0) else (0, 30)) = (0, 30) := by
      rw [if_neg (by simp [hs0]), if_neg hfit]
    rw [hr]
    have Hfit := Lib.hid hfit
    clear hr HCm hs1 hs2 hs0 hfit
    subst hW0
    go_enter Tryz.func37, Tryz.ntmps37
    go_wp2_with (first
      | (go_at_call 70; have := hbb1; refine (HK2.out _ hbb1).mono ?_; rintro e w2 ⟨rfl, hb2⟩; have hbb2 := HVV.out _ (hbb1.trans (hb2.mono hz1)); have hz2 := HZV.out _ hbb2; obtain ⟨cA2, cB2⟩ := HC.out _ (HVW.out _ hbb2); clear this hb2)
      | (go_at_call 70; refine HK1.out.mono ?_; rintro e w1 ⟨rfl, hbb1⟩; have hz1 := hbb1.size; obtain ⟨cA, cB⟩ := HC.out _ hbb1))
    go_region_held3 (fun w' => w'.cell? ⟨w.heap.size, 0, none⟩ = some (.bool neg1) ∧ w'.cell? ⟨w.heap.size, 1, none⟩ = some (.slice a1 L1 c1) ∧ w'.cell? ⟨w.heap.size, 2, none⟩ = some (.slice a2 L2 c2) ∧ w'.cell? ⟨w.heap.size + 1, 0, none⟩ = some (.bool neg2) ∧ w'.cell? ⟨w.heap.size + 1, 1, none⟩ = some (.slice a3 L3 c3) ∧ w'.cell? ⟨w.heap.size + 1, 2, none⟩ = some (.slice a4 L4 c4))
      ((refine HC6.out _ ?_; repeat (first | (with_reducible assumption) | (with_reducible refine Below.setCell (p := ⟨_, _, none⟩) ?_ ?_ _) | (with_reducible refine Below.alloc ?_ ?_ _) | (with_reducible refine Below.drew ?_) | (simp; omega))))
      (first
        | (go_simp; go_at_call_of 71 (a1); refine (HS1.out _).mono ?_; rintro e w5 ⟨rfl, hb5⟩; have hbw5 : Below (w.heap.size + 2) V0 w5 := Below.trans (by repeat (first | (with_reducible assumption) | (with_reducible refine Below.setCell (p := ⟨_, _, none⟩) ?_ ?_ _) | (with_reducible refine Below.alloc ?_ ?_ _) | (with_reducible refine Below.drew ?_) | (simp; omega))) (hb5.mono (by first | (with_reducible assumption) | (simp; omega))); have hzw5 : w.heap.size + 2 ≤ w5.heap.size := HZV.out _ hbw5; (first | (have hPP := own_box hb5 (g := w2.heap.size) (by simp) (box_new w2.drew _); obtain ⟨gP, cP, fP⟩ := hPP) | skip))
        | (go_simp; go_at_call_of 71 (a3); refine (HS2.out _).mono ?_; rintro e w6 ⟨rfl, hb6⟩; have hbw6 : Below (w.heap.size + 2) V0 w6 := Below.trans (by repeat (first | (with_reducible assumption) | (with_reducible refine Below.setCell (p := ⟨_, _, none⟩) ?_ ?_ _) | (with_reducible refine Below.alloc ?_ ?_ _) | (with_reducible refine Below.drew ?_) | (simp; omega))) (hb6.mono (by first | (with_reducible assumption) | (simp; omega))); have hzw6 : w.heap.size + 2 ≤ w6.heap.size := HZV.out _ hbw6; (first | (have hPP := own_box hb6 (size_of_box gP) gP; obtain ⟨gQ, cQ, fQ⟩ := hPP) | (have hPP := own_box hb6 (g := w5.heap.size) (by simp) (box_new w5 _); obtain ⟨gQ, cQ, fQ⟩ := hPP) | skip)))
    all_goals
      go_wp2_with (first
        | (go_at_call 72; refine (HX2.out _ (by repeat (first | (with_reducible assumption) | (with_reducible refine Below.setCell (p := ⟨_, _, none⟩) ?_ ?_ _) | (with_reducible refine Below.alloc ?_ ?_ _) | (with_reducible refine Below.drew ?_) | (simp; omega)))).mono ?_; rintro e w7 ⟨u7, v7, hor, hb7⟩; have hbw7 : Below (w.heap.size + 2) V0 w7 := Below.trans (by repeat (first | (with_reducible assumption) | (with_reducible refine Below.setCell (p := ⟨_, _, none⟩) ?_ ?_ _) | (with_reducible refine Below.alloc ?_ ?_ _) | (with_reducible refine Below.drew ?_) | (simp; omega))) (hb7.mono (by first | (with_reducible assumption) | (simp; omega))); rcases hor with hor | hor; exact absurd ⟨hor.1, hor.2.1⟩ Hfit.out; obtain ⟨hno, rfl⟩ := hor))
      go_ret2
      exact ⟨rfl, HBW.out _ hbw7⟩
end Go.Proofs.YtogngcbflhdadaaGreat
