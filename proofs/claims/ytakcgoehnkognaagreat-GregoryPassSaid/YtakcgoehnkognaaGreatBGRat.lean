/- Texts of one claim, put together: RatA, RatB, RatC, RatD. -/
import Derived.Test.YtakcgoehnkognaaGreatBGNatR
import Derived.Deep.RegionLaw
import Derived.Deep.RegionHeld3

/- Ratios: side, size, lowest, Of, of the program and of the reference. -/
namespace Go.Proofs.YtakcgoehnkognaaGreat
open Go Go.RowKit Go.Shelf Limb

theorem RU.avoid {S : Nat → Prop} {w : World} {v : Value} {xs : List Int} {g : Nat} {cs : Array Value} {e : TypeId} (h : RU S w v xs) (hg : w.heap[g]? = some (.cells cs e (0, 0))) (hne : ∀ (i : Nat) (x : Int), cs[i]? ≠ some (Value.int .u32 x)) : RU (fun b => b ≠ g) w v xs := by
  have h0 := h
  obtain ⟨a, cap, cells, rfl, h1, h2, h3, h4⟩ := h
  refine ⟨a, cap, cells, rfl, h1, h2, h3, ?_⟩
  rcases h4 with h4 | ⟨b, off, rfl, hS, hc⟩
  · exact .inl h4
  · rcases Nat.eq_zero_or_pos xs.length with hz | hz
    · exact .inl (List.eq_nil_of_length_eq_zero hz)
    · refine .inr ⟨b, off, rfl, ?_, hc⟩
      rintro rfl
      obtain ⟨b', off', e1, -, -, hc2, -, -⟩ := RU.at h0 (i := 0) hz
      simp only [Option.some.injEq, Addr.mk.injEq, and_true] at e1
      obtain ⟨rfl, rfl⟩ := e1
      simp only [World.cell?, hg] at hc2
      exact hne _ _ (by simpa using hc2)
theorem bss_ne (x : Bool) (u v : Value) (hu : ∀ k y, u ≠ Value.int k y) (hv : ∀ k y, v ≠ Value.int k y) : ∀ (i : Nat) (y : Int), (#[.bool x, u, v] : Array Value)[i]? ≠ some (Value.int .u32 y) := fun i y h => by
  match i with
  | 0 => simp at h
  | 1 => simp at h; exact hu _ _ h
  | 2 => simp at h; exact hv _ _ h
  | i + 3 => simp at h
/-- A number kept by stores to a block of other cells. -/
theorem NumAt.kept {w w' : World} {v : Value} {n g : Nat} {cs : Array Value} {e : TypeId} (h : NumAt w v n) (hg : w.heap[g]? = some (.cells cs e (0, 0))) (hne : ∀ (i : Nat) (x : Int), cs[i]? ≠ some (Value.int .u32 x)) (hs : Same (fun b => b ≠ g) w w') : NumAt w' v n :=
  NumAt.of ((h.ru.avoid hg hne).same hs)
set_option maxHeartbeats 1000000 in
theorem ratSize (n : Nat) (w : World) (hn : n < 9223372036854775808) :
    Calls Tryz.prog 66 #[.int .i64 n] w fun e w' => e = .returned (.int .u64 n) ∧ w = w' := by
  have h0 : ¬ (n : Int) < 0 := by omega
  have h1 := u64_small (x := (n : Int)) (by omega) (by omega)
  go_enter Tryz.func66, Tryz.ntmps66
  go_wp2
  go_ret
  exact ⟨rfl, rfl⟩
set_option maxHeartbeats 2000000 in
theorem ratLowestF (neg : Bool) (vn vd : Value) (n d : Nat) (w : World) (hn : NumAt w vn n) (hd : NumAt w vd d) (hln : (lim n).length ≤ 96) (hld : (lim d).length ≤ 96) (hd0 : 0 < d) :
    Calls Tryz.prog 64 #[.bool neg, vn, vd] w fun e w' => ∃ a c a' c', e = .returned (.agg #[.bool (neg && decide (n ≠ 0)), .slice a (lim (n / Nat.gcd n d)).length c, .slice a' (lim (d / Nat.gcd n d)).length c']) ∧ RU (From w.heap.size) w' (.slice a (lim (n / Nat.gcd n d)).length c) (lim (n / Nat.gcd n d)) ∧ RU (From w.heap.size) w' (.slice a' (lim (d / Nat.gcd n d)).length c') (lim (d / Nat.gcd n d)) ∧ Below w.heap.size w w' := by
  obtain ⟨Z, hZ⟩ : ∃ Z, Z = Obj.cells #[.bool false, .slice none 0 0, .slice none 0 0] 51 (0, 0) := ⟨_, rfl⟩
  have hb0 := below_new w Z
  have hgA : (w.alloc Z).heap[w.heap.size]? = some (.cells #[.bool false, .slice none 0 0, .slice none 0 0] 51 (0, 0)) := by rw [hZ]; exact box_new w _
  have hg0 : 0 < Nat.gcd n d := Nat.gcd_pos_of_pos_right n hd0
  have hgl : (lim (Nat.gcd n d)).length ≤ 96 := lim_le_of (Nat.gcd_le_right n hd0) hld
  have hn' := hn.same hb0
  have hd' := hd.same hb0
  have hG := natGcd vn vd n d (w.alloc Z) hn' hd' hln hld
  have hD := fun W v (hW : Below (w.alloc Z).heap.size (w.alloc Z) W) (hv : NumAt W v (Nat.gcd n d)) => natDivF vn v n (Nat.gcd n d) W (hn'.same hW) hv hln hgl hg0
  have hD2 := fun W v (hW : Below (w.alloc Z).heap.size (w.alloc Z) W) (hv : NumAt W v (Nat.gcd n d)) => natDivF vd v d (Nat.gcd n d) W (hd'.same hW) hv hld hgl hg0
  obtain ⟨gg, hgg⟩ : ∃ gg, Nat.gcd n d = gg := ⟨_, rfl⟩
  obtain ⟨q1, hq1⟩ : ∃ q1, n / gg = q1 := ⟨_, rfl⟩
  obtain ⟨q2, hq2⟩ : ∃ q2, d / gg = q2 := ⟨_, rfl⟩
  rw [hgg] at hG hD hD2 ⊢
  rw [hq1] at hD ⊢
  rw [hq2] at hD2 ⊢
  have hqn : (n ≠ 0) ↔ (lim q1).length ≠ 0 := by
    rw [← hgg] at hq1
    constructor
    · intro h e
      have h2 := lim_eq_nil.1 (List.eq_nil_of_length_eq_zero e)
      have h3 := Nat.div_mul_cancel (Nat.gcd_dvd_left n d)
      rw [hq1, h2, Nat.zero_mul] at h3
      exact h h3.symm
    · intro h e
      rw [e, Nat.zero_div] at hq1
      rw [← hq1, lim_zero] at h
      exact h rfl
  have hfin : ∀ (w3 : World) a c a' c', Below (w.alloc Z).heap.size (w.alloc Z) w3 → RU (From (w.heap.size + 1)) w3 (.slice a (lim q1).length c) (lim q1) → RU (From (w.heap.size + 1)) w3 (.slice a' (lim q2).length c') (lim q2) → ∀ w', Same (fun b => b ≠ w.heap.size) w3 w' → RU (From w.heap.size) w' (.slice a (lim q1).length c) (lim q1) ∧ RU (From w.heap.size) w' (.slice a' (lim q2).length c') (lim q2) := fun w3 a c a' c' hW k1 k2 w' hs => by
    have h1 : ∀ b, From (w.heap.size + 1) b → b ≠ w.heap.size := fun b hb e => by simp only [From] at hb; omega
    have h2 : ∀ b, From (w.heap.size + 1) b → From w.heap.size b := fun b hb => Nat.le_trans (Nat.le_succ _) hb
    exact ⟨RU.mono h2 (k1.same (hs.mono h1)), RU.mono h2 (k2.same (hs.mono h1))⟩
  have hcell : ∀ w3, Below (w.alloc Z).heap.size (w.alloc Z) w3 → (∀ i, w3.cell? ⟨w.heap.size, i, none⟩ = (#[.bool false, .slice none 0 0, .slice none 0 0] : Array Value)[i]?) ∧ (∀ i, w3.frozen? ⟨w.heap.size, i, none⟩ = false) := fun w3 hW => by
    obtain ⟨-, g2, g3⟩ := own_box hW (by simp) hgA
    exact ⟨g2, g3⟩
  have hbz : ∀ w3, Below (w.alloc Z).heap.size (w.alloc Z) w3 → Below w.heap.size w w3 ∧ w.heap.size + 1 ≤ w3.heap.size := fun w3 hW => ⟨hb0.trans (hW.mono (by simp)), by have := hW.size; simp at this; omega⟩
  obtain ⟨a1, c1, rfl⟩ := hn.shape
  obtain ⟨a2, c2, rfl⟩ := hd.shape
  obtain ⟨L1, hL1⟩ : ∃ L1, (lim n).length = L1 := ⟨_, rfl⟩
  obtain ⟨L2, hL2⟩ : ∃ L2, (lim d).length = L2 := ⟨_, rfl⟩
  rw [hL1] at hG hD ⊢
  rw [hL2] at hG hD2 ⊢
  have HG := Lib.hid hG; have HD := Lib.hid hD; have HD2 := Lib.hid hD2; have HF := Lib.hid hfin; have HC := Lib.hid hcell; have HZ := Lib.hid hbz
  have hfinal : ∀ (nb : Bool) (l : Nat), l = (lim q1).length → nb = (neg && decide (l ≠ 0)) → nb = (neg && decide (n ≠ 0)) := fun nb l e h => by
    rw [h, e]; congr 1; exact decide_eq_decide.2 hqn.symm
  have HH := Lib.hid hfinal
  clear hG hD hD2 hfin hcell hbz hfinal hqn hq1 hq2 hgg hn hd hn' hd' hL1 hL2 hln hld hb0 hgA hg0 hgl
  subst hZ
  cases neg
  · have hr : (false && decide (n ≠ 0)) = false := rfl
    rw [hr]
    clear hr HH
    go_enter Tryz.func64, Tryz.ntmps64
    go_wp2_with (first
      | (go_at_call 117; refine HG.out.mono ?_; rintro e w1 ⟨a3, c3, rfl, hN3, hbb1⟩; have HN3 := Lib.hid hN3; have hz1 := hbb1.size; clear hN3)
      | (go_at_call 81; refine (HD2.out _ _ hbb2 HN3'.out).mono ?_; rintro e w3 ⟨a6, c6, a7, c7, rfl, hN6, hN7, hb3⟩; have hbb3 := hbb2.trans (hb3.mono hz2); have HN4 := Lib.hid (HN4'.out.below hb3); have HN6 := Lib.hid (RU.mono (T := From (w.heap.size + 1)) (fun b hb => Nat.le_trans (HZ.out _ hbb2).2 hb) hN6); obtain ⟨hc3, hf3⟩ := HC.out _ hbb3; clear hN6 hN7)
      | (go_at_call 81; refine (HD.out _ _ hbb1 HN3.out).mono ?_; rintro e w2 ⟨a4, c4, a5, c5, rfl, hN4, hN5, hb2⟩; have hbb2 := hbb1.trans (hb2.mono hz1); have hz2 := hbb2.size; have HN3' := Lib.hid (HN3.out.same hb2); have HN4' := Lib.hid (RU.mono (T := From (w.heap.size + 1)) (fun b hb => Nat.le_trans (HZ.out _ hbb1).2 hb) hN4); clear hN4 hN5))
    refine bodyPost_ret (v := .agg #[.bool false, .slice a4 (lim q1).length c4, .slice a6 (lim q2).length c6]) (by simp [results, Tryz.results64, go_sem, hc3]) rfl ⟨a4, c4, a6, c6, rfl, (HF.out _ _ _ _ _ hbb3 HN4.out HN6.out _ ?_).1, (HF.out _ _ _ _ _ hbb3 HN4.out HN6.out _ ?_).2, ?_⟩
    · exact (((Same.refl _ _).setCell (by simp) _).setCell (by simp) _).setCell (by simp) _
    · exact (((Same.refl _ _).setCell (by simp) _).setCell (by simp) _).setCell (by simp) _
    · exact ((((HZ.out _ hbb3).1.setCell (p := ⟨w.heap.size, 0, none⟩) (Nat.le_refl _) _).setCell (p := ⟨w.heap.size, 1, none⟩) (Nat.le_refl _) _).setCell (p := ⟨w.heap.size, 2, none⟩) (Nat.le_refl _) _)
  · by_cases h0 : (lim q1).length = 0
    · have hr : (true && decide (n ≠ 0)) = false := (HH.out false _ rfl (by simp [h0])).symm
      rw [hr]
      have h0' : ¬ (0 : Int) < ((lim q1).length : Int) := by omega
      have H0 := Lib.hid h0
      clear hr HH h0
      go_enter Tryz.func64, Tryz.ntmps64
      go_wp2_with (first
      | (go_at_call 117; refine HG.out.mono ?_; rintro e w1 ⟨a3, c3, rfl, hN3, hbb1⟩; have HN3 := Lib.hid hN3; have hz1 := hbb1.size; clear hN3)
      | (go_at_call 81; refine (HD2.out _ _ hbb2 HN3'.out).mono ?_; rintro e w3 ⟨a6, c6, a7, c7, rfl, hN6, hN7, hb3⟩; have hbb3 := hbb2.trans (hb3.mono hz2); have HN4 := Lib.hid (HN4'.out.below hb3); have HN6 := Lib.hid (RU.mono (T := From (w.heap.size + 1)) (fun b hb => Nat.le_trans (HZ.out _ hbb2).2 hb) hN6); obtain ⟨hc3, hf3⟩ := HC.out _ hbb3; clear hN6 hN7)
      | (go_at_call 81; refine (HD.out _ _ hbb1 HN3.out).mono ?_; rintro e w2 ⟨a4, c4, a5, c5, rfl, hN4, hN5, hb2⟩; have hbb2 := hbb1.trans (hb2.mono hz1); have hz2 := hbb2.size; have HN3' := Lib.hid (HN3.out.same hb2); have HN4' := Lib.hid (RU.mono (T := From (w.heap.size + 1)) (fun b hb => Nat.le_trans (HZ.out _ hbb1).2 hb) hN4); clear hN4 hN5))
      refine bodyPost_ret (v := .agg #[.bool false, .slice a4 (lim q1).length c4, .slice a6 (lim q2).length c6]) (by simp [results, Tryz.results64, go_sem, hc3, H0.out]) rfl ⟨a4, c4, a6, c6, rfl, (HF.out _ _ _ _ _ hbb3 HN4.out HN6.out _ ?_).1, (HF.out _ _ _ _ _ hbb3 HN4.out HN6.out _ ?_).2, ?_⟩
      · exact (((Same.refl _ _).setCell (by simp) _).setCell (by simp) _).setCell (by simp) _
      · exact (((Same.refl _ _).setCell (by simp) _).setCell (by simp) _).setCell (by simp) _
      · exact ((((HZ.out _ hbb3).1.setCell (p := ⟨w.heap.size, 0, none⟩) (Nat.le_refl _) _).setCell (p := ⟨w.heap.size, 1, none⟩) (Nat.le_refl _) _).setCell (p := ⟨w.heap.size, 2, none⟩) (Nat.le_refl _) _)
    · have hr : (true && decide (n ≠ 0)) = true := (HH.out true _ rfl (by simp [h0])).symm
      rw [hr]
      have h0' : (0 : Int) < ((lim q1).length : Int) := by omega
      have h0'' : 0 < (lim q1).length := by omega
      have h1 : ¬ lim q1 = [] := fun e => h0 (by rw [e]; rfl)
      clear hr HH h0
      go_enter Tryz.func64, Tryz.ntmps64
      go_wp2_with (first
      | (go_at_call 117; refine HG.out.mono ?_; rintro e w1 ⟨a3, c3, rfl, hN3, hbb1⟩; have HN3 := Lib.hid hN3; have hz1 := hbb1.size; clear hN3)
      | (go_at_call 81; refine (HD2.out _ _ hbb2 HN3'.out).mono ?_; rintro e w3 ⟨a6, c6, a7, c7, rfl, hN6, hN7, hb3⟩; have hbb3 := hbb2.trans (hb3.mono hz2); have HN4 := Lib.hid (HN4'.out.below hb3); have HN6 := Lib.hid (RU.mono (T := From (w.heap.size + 1)) (fun b hb => Nat.le_trans (HZ.out _ hbb2).2 hb) hN6); obtain ⟨hc3, hf3⟩ := HC.out _ hbb3; clear hN6 hN7)
      | (go_at_call 81; refine (HD.out _ _ hbb1 HN3.out).mono ?_; rintro e w2 ⟨a4, c4, a5, c5, rfl, hN4, hN5, hb2⟩; have hbb2 := hbb1.trans (hb2.mono hz1); have hz2 := hbb2.size; have HN3' := Lib.hid (HN3.out.same hb2); have HN4' := Lib.hid (RU.mono (T := From (w.heap.size + 1)) (fun b hb => Nat.le_trans (HZ.out _ hbb1).2 hb) hN4); clear hN4 hN5))
      refine bodyPost_ret (v := .agg #[.bool true, .slice a4 (lim q1).length c4, .slice a6 (lim q2).length c6]) (by simp [results, Tryz.results64, go_sem, hc3]) rfl ⟨a4, c4, a6, c6, rfl, (HF.out _ _ _ _ _ hbb3 HN4.out HN6.out _ ?_).1, (HF.out _ _ _ _ _ hbb3 HN4.out HN6.out _ ?_).2, ?_⟩
      · exact (((Same.refl _ _).setCell (by simp) _).setCell (by simp) _).setCell (by simp) _
      · exact (((Same.refl _ _).setCell (by simp) _).setCell (by simp) _).setCell (by simp) _
      · exact ((((HZ.out _ hbb3).1.setCell (p := ⟨w.heap.size, 0, none⟩) (Nat.le_refl _) _).setCell (p := ⟨w.heap.size, 1, none⟩) (Nat.le_refl _) _).setCell (p := ⟨w.heap.size, 2, none⟩) (Nat.le_refl _) _)
theorem ratLowest (neg : Bool) (vn vd : Value) (n d : Nat) (w : World) (hn : NumAt w vn n) (hd : NumAt w vd d) (hln : (lim n).length ≤ 96) (hld : (lim d).length ≤ 96) (hd0 : 0 < d) :
    Calls Tryz.prog 64 #[.bool neg, vn, vd] w fun e w' => ∃ a c a' c', e = .returned (.agg #[.bool (neg && decide (n ≠ 0)), .slice a (lim (n / Nat.gcd n d)).length c, .slice a' (lim (d / Nat.gcd n d)).length c']) ∧ NumAt w' (.slice a (lim (n / Nat.gcd n d)).length c) (n / Nat.gcd n d) ∧ NumAt w' (.slice a' (lim (d / Nat.gcd n d)).length c') (d / Nat.gcd n d) ∧ Below w.heap.size w w' :=
  (ratLowestF neg vn vd n d w hn hd hln hld hd0).mono fun _ _ ⟨a, c, a', c', he, h1, h2, hb⟩ => ⟨a, c, a', c', he, NumAt.of h1, NumAt.of h2, hb⟩
set_option maxHeartbeats 2000000 in
theorem ratOfF (n d : Nat) (w : World) (hn : n < 9223372036854775808) (hd : d < 9223372036854775808) (hd0 : 0 < d) :
    Calls Tryz.prog 25 #[.int .i64 n, .int .i64 d] w fun e w' => ∃ a c a' c', e = .returned (.tuple #[.agg #[.bool false, .slice a (lim (n / Nat.gcd n d)).length c, .slice a' (lim (d / Nat.gcd n d)).length c'], .int .i64 0]) ∧ RU (From w.heap.size) w' (.slice a (lim (n / Nat.gcd n d)).length c) (lim (n / Nat.gcd n d)) ∧ RU (From w.heap.size) w' (.slice a' (lim (d / Nat.gcd n d)).length c') (lim (d / Nat.gcd n d)) ∧ Below w.heap.size w w' := by
  have hln : (lim n).length ≤ 96 := Nat.le_trans (lim_length_le (k := 2) (by rw [pw_succ, pw_succ, pw_zero]; omega)) (by omega)
  have hld : (lim d).length ≤ 96 := Nat.le_trans (lim_length_le (k := 2) (by rw [pw_succ, pw_succ, pw_zero]; omega)) (by omega)
  obtain ⟨Z, hZ⟩ : ∃ Z, Z = Obj.cells #[.bool false, .slice none 0 0, .slice none 0 0] 51 (0, 0) := ⟨_, rfl⟩
  have hb0 := below_new w Z
  have hgA : (w.alloc Z).heap[w.heap.size]? = some (.cells #[.bool false, .slice none 0 0, .slice none 0 0] 51 (0, 0)) := by rw [hZ]; exact box_new w _
  have hSn := fun W => ratSize n W hn
  have hSd := fun W => ratSize d W hd
  have hOn := fun W => natOf n W (by omega)
  have hOd := fun W => natOf d W (by omega)
  have hL := fun W u v (h1 : NumAt W u n) (h2 : NumAt W v d) => ratLowestF false u v n d W h1 h2 hln hld hd0
  have hnd : ¬ (n : Int) < 0 := by omega
  have hdd : ¬ (d : Int) < 0 := by omega
  have hd1 : ((d : Int) == 0) = false := beq_eq_false_iff_ne.2 (by omega)
  have hd2 : ¬ d = 0 := by omega
  obtain ⟨q1, hq1⟩ : ∃ q1, n / Nat.gcd n d = q1 := ⟨_, rfl⟩
  obtain ⟨q2, hq2⟩ : ∃ q2, d / Nat.gcd n d = q2 := ⟨_, rfl⟩
  simp only [Bool.false_and] at hL
  rw [hq1, hq2] at hL ⊢
  have hfin : ∀ (w3 : World) a c a' c', Below (w.alloc Z).heap.size (w.alloc Z) w3 → RU (From (w.heap.size + 1)) w3 (.slice a (lim q1).length c) (lim q1) → RU (From (w.heap.size + 1)) w3 (.slice a' (lim q2).length c') (lim q2) → ∀ w', Same (fun b => b ≠ w.heap.size) w3 w' → RU (From w.heap.size) w' (.slice a (lim q1).length c) (lim q1) ∧ RU (From w.heap.size) w' (.slice a' (lim q2).length c') (lim q2) := fun w3 a c a' c' hW k1 k2 w' hs => by
    have h1 : ∀ b, From (w.heap.size + 1) b → b ≠ w.heap.size := fun b hb e => by simp only [From] at hb; omega
    have h2 : ∀ b, From (w.heap.size + 1) b → From w.heap.size b := fun b hb => Nat.le_trans (Nat.le_succ _) hb
    exact ⟨RU.mono h2 (k1.same (hs.mono h1)), RU.mono h2 (k2.same (hs.mono h1))⟩
  have hcell : ∀ w3, Below (w.alloc Z).heap.size (w.alloc Z) w3 → (∀ i, w3.cell? ⟨w.heap.size, i, none⟩ = (#[.bool false, .slice none 0 0, .slice none 0 0] : Array Value)[i]?) ∧ (∀ i, w3.frozen? ⟨w.heap.size, i, none⟩ = false) := fun w3 hW => by
    obtain ⟨-, g2, g3⟩ := own_box hW (by simp) hgA
    exact ⟨g2, g3⟩
  have hbz : ∀ w3, Below (w.alloc Z).heap.size (w.alloc Z) w3 → Below w.heap.size w w3 := fun w3 hW => hb0.trans (hW.mono (by simp))
  have HSn := Lib.hid hSn; have HSd := Lib.hid hSd; have HOn := Lib.hid hOn; have HOd := Lib.hid hOd; have HL := Lib.hid hL; have HF := Lib.hid hfin; have HC := Lib.hid hcell; have HZ := Lib.hid hbz
  clear hSn hSd hOn hOd hL hfin hcell hbz hq1 hq2 hb0 hgA hln hld
  subst hZ
  go_enter Tryz.func25, Tryz.ntmps25
  go_wp2_with (first
    | (go_at_call 66; have := hbb1; refine (HSd.out _).mono ?_; rintro e w0 ⟨rfl, rfl⟩)
    | (go_at_call 66; refine (HSn.out _).mono ?_; rintro e w0 ⟨rfl, rfl⟩)
    | (go_at_call 65; have := hbb1; refine (HOd.out _).mono ?_; rintro e w2 ⟨a4, c4, rfl, hN4, hb2⟩; have hbb2 := hbb1.trans (hb2.mono hz1); have hz2 := hbb2.size; have HN3' := Lib.hid (HN3.out.same hb2); have HN4 := Lib.hid hN4; clear hN4)
    | (go_at_call 65; refine (HOn.out _).mono ?_; rintro e w1 ⟨a3, c3, rfl, hN3, hbb1⟩; have hz1 := hbb1.size; have HN3 := Lib.hid hN3; clear hN3)
    | (go_at_call 64; refine (HL.out _ _ _ HN3'.out HN4.out).mono ?_; rintro e w3 ⟨a5, c5, a6, c6, rfl, hN5, hN6, hb3⟩; have hbb3 := hbb2.trans (hb3.mono hz2); have hm : ∀ b, From w2.heap.size b → From (w.heap.size + 1) b := (fun b hb => Nat.le_trans (by have := hbb2.size; simpa using this) hb); have HN5 := Lib.hid (RU.mono hm hN5); have HN6 := Lib.hid (RU.mono hm hN6); clear hm; obtain ⟨hc3, hf3⟩ := HC.out _ hbb3; clear hN5 hN6))
  refine bodyPost_ret (v := .tuple #[.agg #[.bool false, .slice a5 (lim q1).length c5, .slice a6 (lim q2).length c6], .int .i64 0]) (by simp [results, Tryz.results25, go_sem, hc3]) rfl ⟨a5, c5, a6, c6, rfl, (HF.out _ _ _ _ _ hbb3 HN5.out HN6.out _ ?_).1, (HF.out _ _ _ _ _ hbb3 HN5.out HN6.out _ ?_).2, ?_⟩
  · exact (((Same.refl _ _).setCell (by simp) _).setCell (by simp) _).setCell (by simp) _
  · exact (((Same.refl _ _).setCell (by simp) _).setCell (by simp) _).setCell (by simp) _
  · exact ((((HZ.out _ hbb3).setCell (p := ⟨w.heap.size, 0, none⟩) (Nat.le_refl _) _).setCell (p := ⟨w.heap.size, 1, none⟩) (Nat.le_refl _) _).setCell (p := ⟨w.heap.size, 2, none⟩) (Nat.le_refl _) _)
set_option maxHeartbeats 1000000 in
theorem r4Size (n : Nat) (w : World) (hn : n < 9223372036854775808) :
    Calls Tryz.prog 177 #[.int .i64 n] w fun e w' => e = .returned (.int .u64 n) ∧ w = w' := by
  have h0 : ¬ (n : Int) < 0 := by omega
  have h1 := u64_small (x := (n : Int)) (by omega) (by omega)
  go_enter Tryz.func177, Tryz.ntmps177
  go_wp2
  go_ret
  exact ⟨rfl, rfl⟩
set_option maxHeartbeats 2000000 in
theorem r4LowestF (neg : Bool) (vn vd : Value) (n d : Nat) (w : World) (hn : NumAt w vn n) (hd : NumAt w vd d) (hln : (lim n).length ≤ 96) (hld : (lim d).length ≤ 96) (hd0 : 0 < d) :
    Calls Tryz.prog 71 #[.bool neg, vn, vd] w fun e w' => ∃ a c a' c', e = .returned (.agg #[.bool (neg && decide (n ≠ 0)), .slice a (lim (n / Nat.gcd n d)).length c, .slice a' (lim (d / Nat.gcd n d)).length c']) ∧ RU (From w.heap.size) w' (.slice a (lim (n / Nat.gcd n d)).length c) (lim (n / Nat.gcd n d)) ∧ RU (From w.heap.size) w' (.slice a' (lim (d / Nat.gcd n d)).length c') (lim (d / Nat.gcd n d)) ∧ Below w.heap.size w w' := by
  obtain ⟨Z, hZ⟩ : ∃ Z, Z = Obj.cells #[.bool false, .slice none 0 0, .slice none 0 0] 51 (0, 0) := ⟨_, rfl⟩
  have hb0 := below_new w Z
  have hgA : (w.alloc Z).heap[w.heap.size]? = some (.cells #[.bool false, .slice none 0 0, .slice none 0 0] 51 (0, 0)) := by rw [hZ]; exact box_new w _
  have hg0 : 0 < Nat.gcd n d := Nat.gcd_pos_of_pos_right n hd0
  have hgl : (lim (Nat.gcd n d)).length ≤ 96 := lim_le_of (Nat.gcd_le_right n hd0) hld
  have hn' := hn.same hb0
  have hd' := hd.same hb0
  have hG := r3Gcd vn vd n d (w.alloc Z) hn' hd' hln hld
  have hD := fun W v (hW : Below (w.alloc Z).heap.size (w.alloc Z) W) (hv : NumAt W v (Nat.gcd n d)) => r3DivF vn v n (Nat.gcd n d) W (hn'.same hW) hv hln hgl hg0
  have hD2 := fun W v (hW : Below (w.alloc Z).heap.size (w.alloc Z) W) (hv : NumAt W v (Nat.gcd n d)) => r3DivF vd v d (Nat.gcd n d) W (hd'.same hW) hv hld hgl hg0
  obtain ⟨gg, hgg⟩ : ∃ gg, Nat.gcd n d = gg := ⟨_, rfl⟩
  obtain ⟨q1, hq1⟩ : ∃ q1, n / gg = q1 := ⟨_, rfl⟩
  obtain ⟨q2, hq2⟩ : ∃ q2, d / gg = q2 := ⟨_, rfl⟩
  rw [hgg] at hG hD hD2 ⊢
  rw [hq1] at hD ⊢
  rw [hq2] at hD2 ⊢
  have hqn : (n ≠ 0) ↔ (lim q1).length ≠ 0 := by
    rw [← hgg] at hq1
    constructor
    · intro h e
      have h2 := lim_eq_nil.1 (List.eq_nil_of_length_eq_zero e)
      have h3 := Nat.div_mul_cancel (Nat.gcd_dvd_left n d)
      rw [hq1, h2, Nat.zero_mul] at h3
      exact h h3.symm
    · intro h e
      rw [e, Nat.zero_div] at hq1
      rw [← hq1, lim_zero] at h
      exact h rfl
  have hfin : ∀ (w3 : World) a c a' c', Below (w.alloc Z).heap.size (w.alloc Z) w3 → RU (From (w.heap.size + 1)) w3 (.slice a (lim q1).length c) (lim q1) → RU (From (w.heap.size + 1)) w3 (.slice a' (lim q2).length c') (lim q2) → ∀ w', Same (fun b => b ≠ w.heap.size) w3 w' → RU (From w.heap.size) w' (.slice a (lim q1).length c) (lim q1) ∧ RU (From w.heap.size) w' (.slice a' (lim q2).length c') (lim q2) := fun w3 a c a' c' hW k1 k2 w' hs => by
    have h1 : ∀ b, From (w.heap.size + 1) b → b ≠ w.heap.size := fun b hb e => by simp only [From] at hb; omega
    have h2 : ∀ b, From (w.heap.size + 1) b → From w.heap.size b := fun b hb => Nat.le_trans (Nat.le_succ _) hb
    exact ⟨RU.mono h2 (k1.same (hs.mono h1)), RU.mono h2 (k2.same (hs.mono h1))⟩
  have hcell : ∀ w3, Below (w.alloc Z).heap.size (w.alloc Z) w3 → (∀ i, w3.cell? ⟨w.heap.size, i, none⟩ = (#[.bool false, .slice none 0 0, .slice none 0 0] : Array Value)[i]?) ∧ (∀ i, w3.frozen? ⟨w.heap.size, i, none⟩ = false) := fun w3 hW => by
    obtain ⟨-, g2, g3⟩ := own_box hW (by simp) hgA
    exact ⟨g2, g3⟩
  have hbz : ∀ w3, Below (w.alloc Z).heap.size (w.alloc Z) w3 → Below w.heap.size w w3 ∧ w.heap.size + 1 ≤ w3.heap.size := fun w3 hW => ⟨hb0.trans (hW.mono (by simp)), by have := hW.size; simp at this; omega⟩
  obtain ⟨a1, c1, rfl⟩ := hn.shape
  obtain ⟨a2, c2, rfl⟩ := hd.shape
  obtain ⟨L1, hL1⟩ : ∃ L1, (lim n).length = L1 := ⟨_, rfl⟩
  obtain ⟨L2, hL2⟩ : ∃ L2, (lim d).length = L2 := ⟨_, rfl⟩
  rw [hL1] at hG hD ⊢
  rw [hL2] at hG hD2 ⊢
  have HG := Lib.hid hG; have HD := Lib.hid hD; have HD2 := Lib.hid hD2; have HF := Lib.hid hfin; have HC := Lib.hid hcell; have HZ := Lib.hid hbz
  have hfinal : ∀ (nb : Bool) (l : Nat), l = (lim q1).length → nb = (neg && decide (l ≠ 0)) → nb = (neg && decide (n ≠ 0)) := fun nb l e h => by
    rw [h, e]; congr 1; exact decide_eq_decide.2 hqn.symm
  have HH := Lib.hid hfinal
  clear hG hD hD2 hfin hcell hbz hfinal hqn hq1 hq2 hgg hn hd hn' hd' hL1 hL2 hln hld hb0 hgA hg0 hgl
  subst hZ
  cases neg
  · have hr : (false && decide (n ≠ 0)) = false := rfl
    rw [hr]
    clear hr HH
    go_enter Tryz.func71, Tryz.ntmps71
    go_wp2_with (first
      | (go_at_call 122; refine HG.out.mono ?_; rintro e w1 ⟨a3, c3, rfl, hN3, hbb1⟩; have HN3 := Lib.hid hN3; have hz1 := hbb1.size; clear hN3)
      | (go_at_call 123; refine (HD2.out _ _ hbb2 HN3'.out).mono ?_; rintro e w3 ⟨a6, c6, a7, c7, rfl, hN6, hN7, hb3⟩; have hbb3 := hbb2.trans (hb3.mono hz2); have HN4 := Lib.hid (HN4'.out.below hb3); have HN6 := Lib.hid (RU.mono (T := From (w.heap.size + 1)) (fun b hb => Nat.le_trans (HZ.out _ hbb2).2 hb) hN6); obtain ⟨hc3, hf3⟩ := HC.out _ hbb3; clear hN6 hN7)
      | (go_at_call 123; refine (HD.out _ _ hbb1 HN3.out).mono ?_; rintro e w2 ⟨a4, c4, a5, c5, rfl, hN4, hN5, hb2⟩; have hbb2 := hbb1.trans (hb2.mono hz1); have hz2 := hbb2.size; have HN3' := Lib.hid (HN3.out.same hb2); have HN4' := Lib.hid (RU.mono (T := From (w.heap.size + 1)) (fun b hb => Nat.le_trans (HZ.out _ hbb1).2 hb) hN4); clear hN4 hN5))
    refine bodyPost_ret (v := .agg #[.bool false, .slice a4 (lim q1).length c4, .slice a6 (lim q2).length c6]) (by simp [results, Tryz.results71, go_sem, hc3]) rfl ⟨a4, c4, a6, c6, rfl, (HF.out _ _ _ _ _ hbb3 HN4.out HN6.out _ ?_).1, (HF.out _ _ _ _ _ hbb3 HN4.out HN6.out _ ?_).2, ?_⟩
    · exact (((Same.refl _ _).setCell (by simp) _).setCell (by simp) _).setCell (by simp) _
    · exact (((Same.refl _ _).setCell (by simp) _).setCell (by simp) _).setCell (by simp) _
    · exact ((((HZ.out _ hbb3).1.setCell (p := ⟨w.heap.size, 0, none⟩) (Nat.le_refl _) _).setCell (p := ⟨w.heap.size, 1, none⟩) (Nat.le_refl _) _).setCell (p := ⟨w.heap.size, 2, none⟩) (Nat.le_refl _) _)
  · by_cases h0 : (lim q1).length = 0
    · have hr : (true && decide (n ≠ 0)) = false := (HH.out false _ rfl (by simp [h0])).symm
      rw [hr]
      have h0' : ¬ (0 : Int) < ((lim q1).length : Int) := by omega
      have H0 := Lib.hid h0
      clear hr HH h0
      go_enter Tryz.func71, Tryz.ntmps71
      go_wp2_with (first
      | (go_at_call 122; refine HG.out.mono ?_; rintro e w1 ⟨a3, c3, rfl, hN3, hbb1⟩; have HN3 := Lib.hid hN3; have hz1 := hbb1.size; clear hN3)
      | (go_at_call 123; refine (HD2.out _ _ hbb2 HN3'.out).mono ?_; rintro e w3 ⟨a6, c6, a7, c7, rfl, hN6, hN7, hb3⟩; have hbb3 := hbb2.trans (hb3.mono hz2); have HN4 := Lib.hid (HN4'.out.below hb3); have HN6 := Lib.hid (RU.mono (T := From (w.heap.size + 1)) (fun b hb => Nat.le_trans (HZ.out _ hbb2).2 hb) hN6); obtain ⟨hc3, hf3⟩ := HC.out _ hbb3; clear hN6 hN7)
      | (go_at_call 123; refine (HD.out _ _ hbb1 HN3.out).mono ?_; rintro e w2 ⟨a4, c4, a5, c5, rfl, hN4, hN5, hb2⟩; have hbb2 := hbb1.trans (hb2.mono hz1); have hz2 := hbb2.size; have HN3' := Lib.hid (HN3.out.same hb2); have HN4' := Lib.hid (RU.mono (T := From (w.heap.size + 1)) (fun b hb => Nat.le_trans (HZ.out _ hbb1).2 hb) hN4); clear hN4 hN5))
      refine bodyPost_ret (v := .agg #[.bool false, .slice a4 (lim q1).length c4, .slice a6 (lim q2).length c6]) (by simp [results, Tryz.results71, go_sem, hc3, H0.out]) rfl ⟨a4, c4, a6, c6, rfl, (HF.out _ _ _ _ _ hbb3 HN4.out HN6.out _ ?_).1, (HF.out _ _ _ _ _ hbb3 HN4.out HN6.out _ ?_).2, ?_⟩
      · exact (((Same.refl _ _).setCell (by simp) _).setCell (by simp) _).setCell (by simp) _
      · exact (((Same.refl _ _).setCell (by simp) _).setCell (by simp) _).setCell (by simp) _
      · exact ((((HZ.out _ hbb3).1.setCell (p := ⟨w.heap.size, 0, none⟩) (Nat.le_refl _) _).setCell (p := ⟨w.heap.size, 1, none⟩) (Nat.le_refl _) _).setCell (p := ⟨w.heap.size, 2, none⟩) (Nat.le_refl _) _)
    · have hr : (true && decide (n ≠ 0)) = true := (HH.out true _ rfl (by simp [h0])).symm
      rw [hr]
      have h0' : (0 : Int) < ((lim q1).length : Int) := by omega
      have h0'' : 0 < (lim q1).length := by omega
      have h1 : ¬ lim q1 = [] := fun e => h0 (by rw [e]; rfl)
      clear hr HH h0
      go_enter Tryz.func71, Tryz.ntmps71
      go_wp2_with (first
      | (go_at_call 122; refine HG.out.mono ?_; rintro e w1 ⟨a3, c3, rfl, hN3, hbb1⟩; have HN3 := Lib.hid hN3; have hz1 := hbb1.size; clear hN3)
      | (go_at_call 123; refine (HD2.out _ _ hbb2 HN3'.out).mono ?_; rintro e w3 ⟨a6, c6, a7, c7, rfl, hN6, hN7, hb3⟩; have hbb3 := hbb2.trans (hb3.mono hz2); have HN4 := Lib.hid (HN4'.out.below hb3); have HN6 := Lib.hid (RU.mono (T := From (w.heap.size + 1)) (fun b hb => Nat.le_trans (HZ.out _ hbb2).2 hb) hN6); obtain ⟨hc3, hf3⟩ := HC.out _ hbb3; clear hN6 hN7)
      | (go_at_call 123; refine (HD.out _ _ hbb1 HN3.out).mono ?_; rintro e w2 ⟨a4, c4, a5, c5, rfl, hN4, hN5, hb2⟩; have hbb2 := hbb1.trans (hb2.mono hz1); have hz2 := hbb2.size; have HN3' := Lib.hid (HN3.out.same hb2); have HN4' := Lib.hid (RU.mono (T := From (w.heap.size + 1)) (fun b hb => Nat.le_trans (HZ.out _ hbb1).2 hb) hN4); clear hN4 hN5))
      refine bodyPost_ret (v := .agg #[.bool true, .slice a4 (lim q1).length c4, .slice a6 (lim q2).length c6]) (by simp [results, Tryz.results71, go_sem, hc3]) rfl ⟨a4, c4, a6, c6, rfl, (HF.out _ _ _ _ _ hbb3 HN4.out HN6.out _ ?_).1, (HF.out _ _ _ _ _ hbb3 HN4.out HN6.out _ ?_).2, ?_⟩
      · exact (((Same.refl _ _).setCell (by simp) _).setCell (by simp) _).setCell (by simp) _
      · exact (((Same.refl _ _).setCell (by simp) _).setCell (by simp) _).setCell (by simp) _
      · exact ((((HZ.out _ hbb3).1.setCell (p := ⟨w.heap.size, 0, none⟩) (Nat.le_refl _) _).setCell (p := ⟨w.heap.size, 1, none⟩) (Nat.le_refl _) _).setCell (p := ⟨w.heap.size, 2, none⟩) (Nat.le_refl _) _)
set_option maxHeartbeats 2000000 in
theorem r4OfF (n d : Nat) (w : World) (hn : n < 9223372036854775808) (hd : d < 9223372036854775808) (hd0 : 0 < d) :
    Calls Tryz.prog 147 #[.int .i64 n, .int .i64 d] w fun e w' => ∃ a c a' c', e = .returned (.tuple #[.agg #[.bool false, .slice a (lim (n / Nat.gcd n d)).length c, .slice a' (lim (d / Nat.gcd n d)).length c'], .int .i64 0]) ∧ RU (From w.heap.size) w' (.slice a (lim (n / Nat.gcd n d)).length c) (lim (n / Nat.gcd n d)) ∧ RU (From w.heap.size) w' (.slice a' (lim (d / Nat.gcd n d)).length c') (lim (d / Nat.gcd n d)) ∧ Below w.heap.size w w' := by
  have hln : (lim n).length ≤ 96 := Nat.le_trans (lim_length_le (k := 2) (by rw [pw_succ, pw_succ, pw_zero]; omega)) (by omega)
  have hld : (lim d).length ≤ 96 := Nat.le_trans (lim_length_le (k := 2) (by rw [pw_succ, pw_succ, pw_zero]; omega)) (by omega)
  obtain ⟨Z, hZ⟩ : ∃ Z, Z = Obj.cells #[.bool false, .slice none 0 0, .slice none 0 0] 51 (0, 0) := ⟨_, rfl⟩
  have hb0 := below_new w Z
  have hgA : (w.alloc Z).heap[w.heap.size]? = some (.cells #[.bool false, .slice none 0 0, .slice none 0 0] 51 (0, 0)) := by rw [hZ]; exact box_new w _
  have hSn := fun W => r4Size n W hn
  have hSd := fun W => r4Size d W hd
  have hOn := fun W => r3Of n W (by omega)
  have hOd := fun W => r3Of d W (by omega)
  have hL := fun W u v (h1 : NumAt W u n) (h2 : NumAt W v d) => r4LowestF false u v n d W h1 h2 hln hld hd0
  have hnd : ¬ (n : Int) < 0 := by omega
  have hdd : ¬ (d : Int) < 0 := by omega
  have hd1 : ((d : Int) == 0) = false := beq_eq_false_iff_ne.2 (by omega)
  have hd2 : ¬ d = 0 := by omega
  obtain ⟨q1, hq1⟩ : ∃ q1, n / Nat.gcd n d = q1 := ⟨_, rfl⟩
  obtain ⟨q2, hq2⟩ : ∃ q2, d / Nat.gcd n d = q2 := ⟨_, rfl⟩
  simp only [Bool.false_and] at hL
  rw [hq1, hq2] at hL ⊢
  have hfin : ∀ (w3 : World) a c a' c', Below (w.alloc Z).heap.size (w.alloc Z) w3 → RU (From (w.heap.size + 1)) w3 (.slice a (lim q1).length c) (lim q1) → RU (From (w.heap.size + 1)) w3 (.slice a' (lim q2).length c') (lim q2) → ∀ w', Same (fun b => b ≠ w.heap.size) w3 w' → RU (From w.heap.size) w' (.slice a (lim q1).length c) (lim q1) ∧ RU (From w.heap.size) w' (.slice a' (lim q2).length c') (lim q2) := fun w3 a c a' c' hW k1 k2 w' hs => by
    have h1 : ∀ b, From (w.heap.size + 1) b → b ≠ w.heap.size := fun b hb e => by simp only [From] at hb; omega
    have h2 : ∀ b, From (w.heap.size + 1) b → From w.heap.size b := fun b hb => Nat.le_trans (Nat.le_succ _) hb
    exact ⟨RU.mono h2 (k1.same (hs.mono h1)), RU.mono h2 (k2.same (hs.mono h1))⟩
  have hcell : ∀ w3, Below (w.alloc Z).heap.size (w.alloc Z) w3 → (∀ i, w3.cell? ⟨w.heap.size, i, none⟩ = (#[.bool false, .slice none 0 0, .slice none 0 0] : Array Value)[i]?) ∧ (∀ i, w3.frozen? ⟨w.heap.size, i, none⟩ = false) := fun w3 hW => by
    obtain ⟨-, g2, g3⟩ := own_box hW (by simp) hgA
    exact ⟨g2, g3⟩
  have hbz : ∀ w3, Below (w.alloc Z).heap.size (w.alloc Z) w3 → Below w.heap.size w w3 := fun w3 hW => hb0.trans (hW.mono (by simp))
  have HSn := Lib.hid hSn; have HSd := Lib.hid hSd; have HOn := Lib.hid hOn; have HOd := Lib.hid hOd; have HL := Lib.hid hL; have HF := Lib.hid hfin; have HC := Lib.hid hcell; have HZ := Lib.hid hbz
  clear hSn hSd hOn hOd hL hfin hcell hbz hq1 hq2 hb0 hgA hln hld
  subst hZ
  go_enter Tryz.func147, Tryz.ntmps147
  go_wp2_with (first
    | (go_at_call 177; have := hbb1; refine (HSd.out _).mono ?_; rintro e w0 ⟨rfl, rfl⟩)
    | (go_at_call 177; refine (HSn.out _).mono ?_; rintro e w0 ⟨rfl, rfl⟩)
    | (go_at_call 151; have := hbb1; refine (HOd.out _).mono ?_; rintro e w2 ⟨a4, c4, rfl, hN4, hb2⟩; have hbb2 := hbb1.trans (hb2.mono hz1); have hz2 := hbb2.size; have HN3' := Lib.hid (HN3.out.same hb2); have HN4 := Lib.hid hN4; clear hN4)
    | (go_at_call 151; refine (HOn.out _).mono ?_; rintro e w1 ⟨a3, c3, rfl, hN3, hbb1⟩; have hz1 := hbb1.size; have HN3 := Lib.hid hN3; clear hN3)
    | (go_at_call 71; refine (HL.out _ _ _ HN3'.out HN4.out).mono ?_; rintro e w3 ⟨a5, c5, a6, c6, rfl, hN5, hN6, hb3⟩; have hbb3 := hbb2.trans (hb3.mono hz2); have hm : ∀ b, From w2.heap.size b → From (w.heap.size + 1) b := (fun b hb => Nat.le_trans (by have := hbb2.size; simpa using this) hb); have HN5 := Lib.hid (RU.mono hm hN5); have HN6 := Lib.hid (RU.mono hm hN6); clear hm; obtain ⟨hc3, hf3⟩ := HC.out _ hbb3; clear hN5 hN6))
  refine bodyPost_ret (v := .tuple #[.agg #[.bool false, .slice a5 (lim q1).length c5, .slice a6 (lim q2).length c6], .int .i64 0]) (by simp [results, Tryz.results147, go_sem, hc3]) rfl ⟨a5, c5, a6, c6, rfl, (HF.out _ _ _ _ _ hbb3 HN5.out HN6.out _ ?_).1, (HF.out _ _ _ _ _ hbb3 HN5.out HN6.out _ ?_).2, ?_⟩
  · exact (((Same.refl _ _).setCell (by simp) _).setCell (by simp) _).setCell (by simp) _
  · exact (((Same.refl _ _).setCell (by simp) _).setCell (by simp) _).setCell (by simp) _
  · exact ((((HZ.out _ hbb3).setCell (p := ⟨w.heap.size, 0, none⟩) (Nat.le_refl _) _).setCell (p := ⟨w.heap.size, 1, none⟩) (Nat.le_refl _) _).setCell (p := ⟨w.heap.size, 2, none⟩) (Nat.le_refl _) _)
end Go.Proofs.YtakcgoehnkognaaGreat

/- Ratios: Check, of the program and of the reference. -/
namespace Go.Proofs.YtakcgoehnkognaaGreat
open Go Go.RowKit Go.Shelf Limb

/-- The error of a ratio's check. -/
def ratChk (neg : Bool) (xs ys : List Int) : Int := if chkN xs ≠ 0 ∨ chkN ys ≠ 0 ∨ ys = [] ∨ (neg = true ∧ xs = []) ∨ Nat.gcd (val xs).toNat (val ys).toNat ≠ 1 then 8 else 0
theorem ratChk_ok {neg : Bool} {m n : Nat} (hm : (lim m).length ≤ 96) (hn : (lim n).length ≤ 96) (hn0 : n ≠ 0) {g : Nat} (hg : Nat.gcd m n = g) (hneg : ¬ (neg = true ∧ m = 0)) : ratChk neg (lim m) (lim n) = if g = 1 then 0 else 8 := by
  unfold ratChk
  rw [chk_of_lim hm, chk_of_lim hn, val_lim, val_lim, Int.toNat_natCast, Int.toNat_natCast]
  have h1 : lim n ≠ [] := fun e => hn0 (lim_eq_nil.1 e)
  have h2 : ¬ (neg = true ∧ lim m = []) := fun h => hneg ⟨h.1, lim_eq_nil.1 h.2⟩
  simp only [ne_eq, not_true_eq_false, h1, h2, false_or, hg]
  by_cases h : g = 1
  · simp [h]
  · simp [h]
theorem eqL_one (g : Nat) : eqL eqInt (lim g) [1] = decide (g = 1) := by
  by_cases h : g = 1
  · subst h
    rw [lim_small (by omega) (by omega), decide_eq_true rfl]
    exact eqL_int.2 rfl
  · rw [decide_eq_false h]
    cases hb : eqL eqInt (lim g) [1]
    · rfl
    · exfalso
      have e := congrArg val (eqL_int.1 hb)
      rw [val_lim, val_single] at e
      omega
set_option maxHeartbeats 1000000 in
theorem ratOne (w : World) : Calls Tryz.prog 67 #[] w fun e w' => ∃ g, e = .returned (.slice (some ⟨g, 0, none⟩) 1 1) ∧ RU Any w' (.slice (some ⟨g, 0, none⟩) 1 1) [1] ∧ Below w.heap.size w w' := by
  have h1 := NumAt.one w
  have hb0 := below_new w (.cells #[.int .u32 1] 156)
  have H1 := Lib.hid h1; clear h1
  go_enter Tryz.func67, Tryz.ntmps67
  go_wp2
  go_ret
  exact ⟨_, rfl, H1.out, hb0⟩
set_option maxHeartbeats 2000000 in
theorem ratCheck (S T : Nat → Prop) (neg : Bool) (vn vd : Value) (xs ys : List Int) (w : World) (hx : RU S w vn xs) (hy : RU T w vd ys) :
    Calls Tryz.prog 80 #[.agg #[.bool neg, vn, vd]] w fun e w' => e = .returned (.int .i64 (ratChk neg xs ys)) ∧ Below w.heap.size w w' := by
  obtain ⟨a1, c1, rfl, -, -⟩ := RSl.shape hx
  obtain ⟨a2, c2, rfl, -, -⟩ := RSl.shape hy
  have hlx := RU.lim hx
  have hly := RU.lim hy
  obtain ⟨W0, hW0⟩ : ∃ W0, W0 = w.alloc (.cells #[.bool neg, .slice a1 xs.length c1, .slice a2 ys.length c2] 51) := ⟨_, rfl⟩
  have hb0 : Below w.heap.size w W0 := by rw [hW0]; exact below_new w _
  have hx' := hx.below hb0
  have hy' := hy.below hb0
  have hK1 := natCheck S _ xs W0 hx'
  have hK2 := natCheck T _ ys W0 hy'
  obtain ⟨C1, hC1⟩ : ∃ C1, chkN xs = C1 := ⟨_, rfl⟩
  obtain ⟨C2, hC2⟩ : ∃ C2, chkN ys = C2 := ⟨_, rfl⟩
  rw [hC1] at hK1
  rw [hC2] at hK2
  have HCK := Lib.hid hK1; have HCK2 := Lib.hid hK2
  clear hK1 hK2
  by_cases h1 : C1 = 0
  case neg =>
    have hr : ratChk neg xs ys = 8 := by unfold ratChk; rw [if_pos (.inl (by rw [hC1]; exact h1))]
    have hcb : (C1 != 0) = true := bne_iff_ne.2 h1
    skip
    have Hr := Lib.hid hr
    clear hr hx hy hx' hy' hC1 hC2 hlx hly h1
    subst hW0
    go_enter Tryz.func80, Tryz.ntmps80
    go_wp2_with (first
      | (go_at_call_of 130 (a1); refine HCK.out.mono ?_; rintro e w1 ⟨rfl, rfl⟩)
      | (go_at_call_of 130 (a2); refine HCK2.out.mono ?_; rintro e w1 ⟨rfl, rfl⟩))
    go_ret
    exact ⟨ret_int Hr.out.symm, hb0⟩
  subst h1
  by_cases h2 : C2 = 0
  case neg =>
    have hr : ratChk neg xs ys = 8 := by unfold ratChk; rw [if_pos (.inr (.inl (by rw [hC2]; exact h2)))]
    have hcb : (C2 != 0) = true := bne_iff_ne.2 h2
    skip
    have Hr := Lib.hid hr
    clear hr hx hy hx' hy' hC1 hC2 hlx hly h2
    subst hW0
    go_enter Tryz.func80, Tryz.ntmps80
    go_wp2_with (first
      | (go_at_call_of 130 (a1); refine HCK.out.mono ?_; rintro e w1 ⟨rfl, rfl⟩)
      | (go_at_call_of 130 (a2); refine HCK2.out.mono ?_; rintro e w1 ⟨rfl, rfl⟩))
    go_ret
    exact ⟨ret_int Hr.out.symm, hb0⟩
  subst h2
  obtain ⟨m, rfl, hm⟩ := lim_of_chk hlx hC1
  obtain ⟨n, rfl, hn⟩ := lim_of_chk hly hC2
  skip
  by_cases hn0 : n = 0
  · subst hn0
    have hr : ratChk neg (lim m) (lim 0) = 8 := by unfold ratChk; rw [if_pos (.inr (.inr (.inl lim_zero)))]
    have Hr := Lib.hid hr
    have hl0 : (lim 0).length = 0 := by rw [lim_zero]; rfl
    clear hr hx hy hx' hy' hC1 hC2 hlx hly
    rw [hl0] at hW0 ⊢
    try rw [hl0] at HCK
    try rw [hl0] at HCK2
    clear hl0
    subst hW0
    go_enter Tryz.func80, Tryz.ntmps80
    go_wp2_with (first
      | (go_at_call_of 130 (a1); refine HCK.out.mono ?_; rintro e w1 ⟨rfl, rfl⟩)
      | (go_at_call_of 130 (a2); refine HCK2.out.mono ?_; rintro e w1 ⟨rfl, rfl⟩))
    go_ret
    exact ⟨ret_int Hr.out.symm, hb0⟩
  have hnl : ((lim n).length : Int) ≠ 0 := fun e => hn0 (lim_eq_nil.1 (List.eq_nil_of_length_eq_zero (by omega)))
  have hnb : (((lim n).length : Int) == 0) = false := beq_eq_false_iff_ne.2 hnl
  have hn1 : ¬ lim n = [] := fun e => hn0 (lim_eq_nil.1 e)
  have hG := natGcd _ _ m n W0 (NumAt.of hx') (NumAt.of hy') hm hn
  have hSm := fun W u v (k1 : RU Any W u (lim (Nat.gcd m n))) (k2 : RU Any W v [1]) => natSame Any Any u v _ _ W k1 k2
  simp only [eqL_one] at hSm
  obtain ⟨gg, hgg⟩ : ∃ gg, Nat.gcd m n = gg := ⟨_, rfl⟩
  rw [hgg] at hG hSm
  have hres : ¬ (neg = true ∧ m = 0) → ratChk neg (lim m) (lim n) = if gg = 1 then 0 else 8 := fun h => ratChk_ok hm hn hn0 hgg h
  have HG := Lib.hid hG
  by_cases hm0 : m = 0
  · subst hm0
    have hl0 : (lim 0).length = 0 := by rw [lim_zero]; rfl
    cases neg
    · have hres2 := hres (by simp)
      have Hres := Lib.hid hres2
      clear hres hres2 hx hy hx' hy' hC1 hC2 hlx hly hgg hG
      rw [hl0] at hW0 HCK HG ⊢
      clear hl0
      subst hW0
      by_cases hg1 : gg = 1
      · subst hg1
        have hd : decide (1 = 1) = true := rfl
        rw [hd] at hSm
        have HS := Lib.hid hSm
        clear hSm hd
        go_enter Tryz.func80, Tryz.ntmps80
        go_wp2_with (first
          | (go_at_call_of 130 (a1); refine HCK.out.mono ?_; rintro e w1 ⟨rfl, rfl⟩)
          | (go_at_call_of 130 (a2); refine HCK2.out.mono ?_; rintro e w1 ⟨rfl, rfl⟩)
          | (go_at_call 117; refine HG.out.mono ?_; rintro e w1 ⟨a3, c3, rfl, hN3, hb1⟩; have HN3 := Lib.hid hN3; have hz1 := hb1.size; simp at hz1; clear hN3)
          | (go_at_call 67; refine (ratOne _).mono ?_; rintro e w2 ⟨g, rfl, hN4, hb2⟩; have HN3' := Lib.hid (HN3.out.same hb2).ru; have HN4 := Lib.hid hN4; have hz2 := hb2.size; clear hN4)
          | (go_at_call 131; refine (HS.out _ _ _ HN3'.out HN4.out).mono ?_; rintro e w3 ⟨rfl, hb3⟩))
        go_ret
        exact ⟨ret_int (by rw [Hres.out]; rfl), hb0.trans ((hb1.mono (by simp)).trans ((hb2.mono (by omega)).trans (hb3.mono (by omega))))⟩
      · have hd : decide (gg = 1) = false := decide_eq_false hg1
        rw [hd] at hSm
        rw [if_neg hg1] at Hres
        have HS := Lib.hid hSm
        clear hSm hd hg1
        go_enter Tryz.func80, Tryz.ntmps80
        go_wp2_with (first
          | (go_at_call_of 130 (a1); refine HCK.out.mono ?_; rintro e w1 ⟨rfl, rfl⟩)
          | (go_at_call_of 130 (a2); refine HCK2.out.mono ?_; rintro e w1 ⟨rfl, rfl⟩)
          | (go_at_call 117; refine HG.out.mono ?_; rintro e w1 ⟨a3, c3, rfl, hN3, hb1⟩; have HN3 := Lib.hid hN3; have hz1 := hb1.size; simp at hz1; clear hN3)
          | (go_at_call 67; refine (ratOne _).mono ?_; rintro e w2 ⟨g, rfl, hN4, hb2⟩; have HN3' := Lib.hid (HN3.out.same hb2).ru; have HN4 := Lib.hid hN4; have hz2 := hb2.size; clear hN4)
          | (go_at_call 131; refine (HS.out _ _ _ HN3'.out HN4.out).mono ?_; rintro e w3 ⟨rfl, hb3⟩))
        go_ret
        exact ⟨ret_int Hres.out.symm, hb0.trans ((hb1.mono (by simp)).trans ((hb2.mono (by omega)).trans (hb3.mono (by omega))))⟩
    · have hr : ratChk true (lim 0) (lim n) = 8 := by unfold ratChk; rw [if_pos (.inr (.inr (.inr (.inl ⟨rfl, lim_zero⟩))))]
      have Hr := Lib.hid hr
      clear hr hres hx hy hx' hy' hC1 hC2 hlx hly hgg hG hSm HG
      rw [hl0] at hW0 HCK ⊢
      clear hl0
      subst hW0
      go_enter Tryz.func80, Tryz.ntmps80
      go_wp2_with (first
      | (go_at_call_of 130 (a1); refine HCK.out.mono ?_; rintro e w1 ⟨rfl, rfl⟩)
      | (go_at_call_of 130 (a2); refine HCK2.out.mono ?_; rintro e w1 ⟨rfl, rfl⟩))
      go_ret
      exact ⟨ret_int Hr.out.symm, hb0⟩
  · have hml : ((lim m).length : Int) ≠ 0 := fun e => hm0 (lim_eq_nil.1 (List.eq_nil_of_length_eq_zero (by omega)))
    have hmb : (((lim m).length : Int) == 0) = false := beq_eq_false_iff_ne.2 hml
    have hm1 : ¬ lim m = [] := fun e => hm0 (lim_eq_nil.1 e)
    have hres2 := hres (fun h => hm0 h.2)
    have Hres := Lib.hid hres2
    clear hres hres2 hx hy hx' hy' hC1 hC2 hlx hly hgg hG
    cases neg
    · subst hW0
      by_cases hg1 : gg = 1
      · subst hg1
        have hd : decide (1 = 1) = true := rfl
        rw [hd] at hSm
        have HS := Lib.hid hSm
        clear hSm hd
        go_enter Tryz.func80, Tryz.ntmps80
        go_wp2_with (first
          | (go_at_call_of 130 (a1); refine HCK.out.mono ?_; rintro e w1 ⟨rfl, rfl⟩)
          | (go_at_call_of 130 (a2); refine HCK2.out.mono ?_; rintro e w1 ⟨rfl, rfl⟩)
          | (go_at_call 117; refine HG.out.mono ?_; rintro e w1 ⟨a3, c3, rfl, hN3, hb1⟩; have HN3 := Lib.hid hN3; have hz1 := hb1.size; simp at hz1; clear hN3)
          | (go_at_call 67; refine (ratOne _).mono ?_; rintro e w2 ⟨g, rfl, hN4, hb2⟩; have HN3' := Lib.hid (HN3.out.same hb2).ru; have HN4 := Lib.hid hN4; have hz2 := hb2.size; clear hN4)
          | (go_at_call 131; refine (HS.out _ _ _ HN3'.out HN4.out).mono ?_; rintro e w3 ⟨rfl, hb3⟩))
        go_ret
        exact ⟨ret_int (by rw [Hres.out]; rfl), hb0.trans ((hb1.mono (by simp)).trans ((hb2.mono (by omega)).trans (hb3.mono (by omega))))⟩
      · have hd : decide (gg = 1) = false := decide_eq_false hg1
        rw [hd] at hSm
        rw [if_neg hg1] at Hres
        have HS := Lib.hid hSm
        clear hSm hd hg1
        go_enter Tryz.func80, Tryz.ntmps80
        go_wp2_with (first
          | (go_at_call_of 130 (a1); refine HCK.out.mono ?_; rintro e w1 ⟨rfl, rfl⟩)
          | (go_at_call_of 130 (a2); refine HCK2.out.mono ?_; rintro e w1 ⟨rfl, rfl⟩)
          | (go_at_call 117; refine HG.out.mono ?_; rintro e w1 ⟨a3, c3, rfl, hN3, hb1⟩; have HN3 := Lib.hid hN3; have hz1 := hb1.size; simp at hz1; clear hN3)
          | (go_at_call 67; refine (ratOne _).mono ?_; rintro e w2 ⟨g, rfl, hN4, hb2⟩; have HN3' := Lib.hid (HN3.out.same hb2).ru; have HN4 := Lib.hid hN4; have hz2 := hb2.size; clear hN4)
          | (go_at_call 131; refine (HS.out _ _ _ HN3'.out HN4.out).mono ?_; rintro e w3 ⟨rfl, hb3⟩))
        go_ret
        exact ⟨ret_int Hres.out.symm, hb0.trans ((hb1.mono (by simp)).trans ((hb2.mono (by omega)).trans (hb3.mono (by omega))))⟩
    · subst hW0
      by_cases hg1 : gg = 1
      · subst hg1
        have hd : decide (1 = 1) = true := rfl
        rw [hd] at hSm
        have HS := Lib.hid hSm
        clear hSm hd
        go_enter Tryz.func80, Tryz.ntmps80
        go_wp2_with (first
          | (go_at_call_of 130 (a1); refine HCK.out.mono ?_; rintro e w1 ⟨rfl, rfl⟩)
          | (go_at_call_of 130 (a2); refine HCK2.out.mono ?_; rintro e w1 ⟨rfl, rfl⟩)
          | (go_at_call 117; refine HG.out.mono ?_; rintro e w1 ⟨a3, c3, rfl, hN3, hb1⟩; have HN3 := Lib.hid hN3; have hz1 := hb1.size; simp at hz1; clear hN3)
          | (go_at_call 67; refine (ratOne _).mono ?_; rintro e w2 ⟨g, rfl, hN4, hb2⟩; have HN3' := Lib.hid (HN3.out.same hb2).ru; have HN4 := Lib.hid hN4; have hz2 := hb2.size; clear hN4)
          | (go_at_call 131; refine (HS.out _ _ _ HN3'.out HN4.out).mono ?_; rintro e w3 ⟨rfl, hb3⟩))
        go_ret
        exact ⟨ret_int (by rw [Hres.out]; rfl), hb0.trans ((hb1.mono (by simp)).trans ((hb2.mono (by omega)).trans (hb3.mono (by omega))))⟩
      · have hd : decide (gg = 1) = false := decide_eq_false hg1
        rw [hd] at hSm
        rw [if_neg hg1] at Hres
        have HS := Lib.hid hSm
        clear hSm hd hg1
        go_enter Tryz.func80, Tryz.ntmps80
        go_wp2_with (first
          | (go_at_call_of 130 (a1); refine HCK.out.mono ?_; rintro e w1 ⟨rfl, rfl⟩)
          | (go_at_call_of 130 (a2); refine HCK2.out.mono ?_; rintro e w1 ⟨rfl, rfl⟩)
          | (go_at_call 117; refine HG.out.mono ?_; rintro e w1 ⟨a3, c3, rfl, hN3, hb1⟩; have HN3 := Lib.hid hN3; have hz1 := hb1.size; simp at hz1; clear hN3)
          | (go_at_call 67; refine (ratOne _).mono ?_; rintro e w2 ⟨g, rfl, hN4, hb2⟩; have HN3' := Lib.hid (HN3.out.same hb2).ru; have HN4 := Lib.hid hN4; have hz2 := hb2.size; clear hN4)
          | (go_at_call 131; refine (HS.out _ _ _ HN3'.out HN4.out).mono ?_; rintro e w3 ⟨rfl, hb3⟩))
        go_ret
        exact ⟨ret_int Hres.out.symm, hb0.trans ((hb1.mono (by simp)).trans ((hb2.mono (by omega)).trans (hb3.mono (by omega))))⟩
end Go.Proofs.YtakcgoehnkognaaGreat
