/- Texts of one claim, put together: RatA, RatB. -/
import Derived.Test.YthcbkhfmdginiaaGreatAGNatR

namespace Go.Proofs.YthcbkhfmdginiaaGreat
open Go Go.RowKit Go.Shelf Limb

theorem RU.avoid {S : Nat → Prop} {w : World} {v : Value} {xs : List Int} {g : Nat} {cs : Array Value} {e : TypeId} (h : RU S w v xs) (hg : w.heap[g]? = some (.cells cs e (0, 0))) (hne : ∀ (i : Nat) (x : Int), cs[i]? ≠ some (Value.int .u32 x)) : RU (fun b => b ≠ g) w v xs := by
 have h0 := h
 obtain ⟨a, cap, cells, rfl, h1, h2, h3, h4⟩ := h
 refine ⟨a, cap, cells, rfl, h1, h2, h3, ?_⟩
 rcases h4 with h4 | ⟨b, off, rfl, hS, hc⟩
 ·exact .inl h4
 ·rcases Nat.eq_zero_or_pos xs.length with hz | hz
  ·exact .inl (List.eq_nil_of_length_eq_zero hz)
  ·refine .inr ⟨b, off, rfl, ?_, hc⟩
   rintro rfl
   obtain ⟨b', off', e1, -, -, hc2, -, -⟩ := RU.at h0 (i := 0) hz
   simp only [Option.some.injEq, Addr.mk.injEq, and_true] at e1
   obtain ⟨rfl, rfl⟩ := e1
   simp only [World.cell?, hg] at hc2
   exact hne _ _ (by simpa using hc2)
theorem NumAt.kept {w w' : World} {v : Value} {n g : Nat} {cs : Array Value} {e : TypeId} (h : NumAt w v n) (hg : w.heap[g]? = some (.cells cs e (0, 0))) (hne : ∀ (i : Nat) (x : Int), cs[i]? ≠ some (Value.int .u32 x)) (hs : Same (fun b => b ≠ g) w w') : NumAt w' v n :=
 NumAt.of ((h.ru.avoid hg hne).same hs)
set_option maxHeartbeats 1000000 in
theorem ratSize (n : Nat) (w : World) (hn : n < 9223372036854775808) :
  Calls Tryz.prog 104 #[.int .i64 n] w fun e w' => e = .returned (.int .u64 n) ∧ w = w' := by
 have h0 : ¬ (n : Int) < 0 := by omega
 have h1 := qa6 (x := (n : Int)) (by omega) (by omega)
 go_enter Tryz.func104, Tryz.ntmps104
 go_wp2
 go_ret
 exact ⟨rfl, rfl⟩
set_option maxHeartbeats 2000000 in
theorem ratLowestF (neg : Bool) (vn vd : Value) (n d : Nat) (w : World) (hn : NumAt w vn n) (hd : NumAt w vd d) (hln : (lim n).length ≤ 96) (hld : (lim d).length ≤ 96) (hd0 : 0 < d) :
  Calls Tryz.prog 164 #[.bool neg, vn, vd] w fun e w' => ∃ a c a' c', e = .returned (.agg #[.bool (neg && decide (n ≠ 0)), .slice a (lim (n / Nat.gcd n d)).length c, .slice a' (lim (d / Nat.gcd n d)).length c']) ∧ RU (From w.heap.size) w' (.slice a (lim (n / Nat.gcd n d)).length c) (lim (n / Nat.gcd n d)) ∧ RU (From w.heap.size) w' (.slice a' (lim (d / Nat.gcd n d)).length c') (lim (d / Nat.gcd n d)) ∧ Below w.heap.size w w' := by
 obtain ⟨Z, hZ⟩ : ∃ Z, Z = Obj.cells #[.bool false, .slice none 0 0, .slice none 0 0] 56 (0, 0) := ⟨_, rfl⟩
 have hb0 := qa1 w Z
 have hgA : (w.alloc Z).heap[w.heap.size]? = some (.cells #[.bool false, .slice none 0 0, .slice none 0 0] 56 (0, 0)) := by rw [hZ]; exact qa9 w _
 have hg0 : 0 < Nat.gcd n d := Nat.gcd_pos_of_pos_right n hd0
 have hgl : (lim (Nat.gcd n d)).length ≤ 96 := lim_le_of (Nat.gcd_le_right n hd0) hld
 have hn' := hn.same hb0
 have hd' := hd.same hb0
 have hG := natGcd vn vd n d (w.alloc Z) hn' hd' hln hld
 have hD := fun W v (hW : Below (w.alloc Z).heap.size (w.alloc Z) W) (hv : NumAt W v (Nat.gcd n d)) => natDivF vn v n (Nat.gcd n d) W (hn'.same hW) hv hln hgl hg0
 have hD2 := fun W v (hW : Below (w.alloc Z).heap.size (w.alloc Z) W) (hv : NumAt W v (Nat.gcd n d)) => natDivF vd v d (Nat.gcd n d) W (hd'.same hW) hv hld hgl hg0
 obtain ⟨gg, hgg⟩ : ∃ gg, Nat.gcd n d = gg := ⟨_, rfl⟩
 obtain ⟨q1, hq1⟩ : ∃ q1, n / gg = q1 := ⟨_, rfl⟩
 obtain ⟨q2, hq2⟩ : ∃ q2, d / gg = q2 := ⟨_, rfl⟩
 rw [hgg] at hG hD hD2 ⊢
 rw [hq1] at hD ⊢
 rw [hq2] at hD2 ⊢
 have hqn : (n ≠ 0) ↔ (lim q1).length ≠ 0 := by
  rw [← hgg] at hq1
  constructor
  ·intro h e
   have h2 := qax.1 (List.eq_nil_of_length_eq_zero e)
   have h3 := Nat.div_mul_cancel (Nat.gcd_dvd_left n d)
   rw [hq1, h2, Nat.zero_mul] at h3
   exact h h3.symm
  ·intro h e
   rw [e, Nat.zero_div] at hq1
   rw [← hq1, qap] at h
   exact h rfl
 have hfin : ∀ (w3 : World) a c a' c', Below (w.alloc Z).heap.size (w.alloc Z) w3 → RU (From (w.heap.size + 1)) w3 (.slice a (lim q1).length c) (lim q1) → RU (From (w.heap.size + 1)) w3 (.slice a' (lim q2).length c') (lim q2) → ∀ w', Same (fun b => b ≠ w.heap.size) w3 w' → RU (From w.heap.size) w' (.slice a (lim q1).length c) (lim q1) ∧ RU (From w.heap.size) w' (.slice a' (lim q2).length c') (lim q2) := fun w3 a c a' c' hW k1 k2 w' hs => by
  have h1 : ∀ b, From (w.heap.size + 1) b → b ≠ w.heap.size := fun b hb e => by simp only [From] at hb; omega
  have h2 : ∀ b, From (w.heap.size + 1) b → From w.heap.size b := fun b hb => Nat.le_trans (Nat.le_succ _) hb
  exact ⟨RU.mono h2 (k1.same (hs.mono h1)), RU.mono h2 (k2.same (hs.mono h1))⟩
 have hcell : ∀ w3, Below (w.alloc Z).heap.size (w.alloc Z) w3 → (∀ i, w3.cell? ⟨w.heap.size, i, none⟩ = (#[.bool false, .slice none 0 0, .slice none 0 0] : Array Value)[i]?) ∧ (∀ i, w3.frozen? ⟨w.heap.size, i, none⟩ = false) := fun w3 hW => by
  obtain ⟨-, g2, g3⟩ := qa5 hW (by simp) hgA
  exact ⟨g2, g3⟩
 have hbz : ∀ w3, Below (w.alloc Z).heap.size (w.alloc Z) w3 → Below w.heap.size w w3 ∧ w.heap.size + 1 ≤ w3.heap.size := fun w3 hW => ⟨hb0.trans (hW.mono (by simp)), by have := hW.size; simp at this; omega⟩
 obtain ⟨a1, c1, rfl⟩ := hn.shape
 obtain ⟨a2, c2, rfl⟩ := hd.shape
 obtain ⟨L1, hL1⟩ : ∃ L1, (lim n).length = L1 := ⟨_, rfl⟩
 obtain ⟨L2, hL2⟩ : ∃ L2, (lim d).length = L2 := ⟨_, rfl⟩
 rw [hL1] at hG hD ⊢
 rw [hL2] at hG hD2 ⊢
 have HG := Lib.hid hG; have HD := Lib.hid hD; have HD2 := Lib.hid hD2; have HF := Lib.hid hfin; have HC := Lib.hid hcell; have HZ := Lib.hid hbz
 have hfinal : ∀ (nb : Bool) (l : Nat), l = (lim q1).length → nb = (neg && decide (l ≠ 0)) → nb = (neg && decide (n ≠ 0)) := fun nb l e h => by
  rw [h, e]; congr 1; exact decide_eq_decide.2 hqn.symm
 have HH := Lib.hid hfinal
 clear hG hD hD2 hfin hcell hbz hfinal hqn hq1 hq2 hgg hn hd hn' hd' hL1 hL2 hln hld hb0 hgA hg0 hgl
 subst hZ
 cases neg
 ·have hr : (false && decide (n ≠ 0)) = false := rfl
  rw [hr]
  clear hr HH
  go_enter Tryz.func164, Tryz.ntmps164
  go_wp2_with (first
   | (go_at_call 167; refine HG.out.mono ?_; rintro e w1 ⟨a3, c3, rfl, hN3, hbb1⟩; have HN3 := Lib.hid hN3; have hz1 := hbb1.size; clear hN3)
   | (go_at_call 178; refine (HD2.out _ _ hbb2 HN3'.out).mono ?_; rintro e w3 ⟨a6, c6, a7, c7, rfl, hN6, hN7, hb3⟩; have hbb3 := hbb2.trans (hb3.mono hz2); have HN4 := Lib.hid (HN4'.out.below hb3); have HN6 := Lib.hid (RU.mono (T := From (w.heap.size + 1)) (fun b hb => Nat.le_trans (HZ.out _ hbb2).2 hb) hN6); obtain ⟨hc3, hf3⟩ := HC.out _ hbb3; clear hN6 hN7)
   | (go_at_call 178; refine (HD.out _ _ hbb1 HN3.out).mono ?_; rintro e w2 ⟨a4, c4, a5, c5, rfl, hN4, hN5, hb2⟩; have hbb2 := hbb1.trans (hb2.mono hz1); have hz2 := hbb2.size; have HN3' := Lib.hid (HN3.out.same hb2); have HN4' := Lib.hid (RU.mono (T := From (w.heap.size + 1)) (fun b hb => Nat.le_trans (HZ.out _ hbb1).2 hb) hN4); clear hN4 hN5))
  refine bodyPost_ret (v := .agg #[.bool false, .slice a4 (lim q1).length c4, .slice a6 (lim q2).length c6]) (by simp [results, Tryz.results164, go_sem, hc3]) rfl ⟨a4, c4, a6, c6, rfl, (HF.out _ _ _ _ _ hbb3 HN4.out HN6.out _ ?_).1, (HF.out _ _ _ _ _ hbb3 HN4.out HN6.out _ ?_).2, ?_⟩
  ·exact (((Same.refl _ _).setCell (by simp) _).setCell (by simp) _).setCell (by simp) _
  ·exact (((Same.refl _ _).setCell (by simp) _).setCell (by simp) _).setCell (by simp) _
  ·exact ((((HZ.out _ hbb3).1.setCell (p := ⟨w.heap.size, 0, none⟩) (Nat.le_refl _) _).setCell (p := ⟨w.heap.size, 1, none⟩) (Nat.le_refl _) _).setCell (p := ⟨w.heap.size, 2, none⟩) (Nat.le_refl _) _)
 ·by_cases h0 : (lim q1).length = 0
  ·have hr : (true && decide (n ≠ 0)) = false := (HH.out false _ rfl (by simp [h0])).symm
   rw [hr]
   have h0' : ¬ (0 : Int) < ((lim q1).length : Int) := by omega
   have H0 := Lib.hid h0
   clear hr HH h0
   go_enter Tryz.func164, Tryz.ntmps164
   go_wp2_with (first
   | (go_at_call 167; refine HG.out.mono ?_; rintro e w1 ⟨a3, c3, rfl, hN3, hbb1⟩; have HN3 := Lib.hid hN3; have hz1 := hbb1.size; clear hN3)
   | (go_at_call 178; refine (HD2.out _ _ hbb2 HN3'.out).mono ?_; rintro e w3 ⟨a6, c6, a7, c7, rfl, hN6, hN7, hb3⟩; have hbb3 := hbb2.trans (hb3.mono hz2); have HN4 := Lib.hid (HN4'.out.below hb3); have HN6 := Lib.hid (RU.mono (T := From (w.heap.size + 1)) (fun b hb => Nat.le_trans (HZ.out _ hbb2).2 hb) hN6); obtain ⟨hc3, hf3⟩ := HC.out _ hbb3; clear hN6 hN7)
   | (go_at_call 178; refine (HD.out _ _ hbb1 HN3.out).mono ?_; rintro e w2 ⟨a4, c4, a5, c5, rfl, hN4, hN5, hb2⟩; have hbb2 := hbb1.trans (hb2.mono hz1); have hz2 := hbb2.size; have HN3' := Lib.hid (HN3.out.same hb2); have HN4' := Lib.hid (RU.mono (T := From (w.heap.size + 1)) (fun b hb => Nat.le_trans (HZ.out _ hbb1).2 hb) hN4); clear hN4 hN5))
   refine bodyPost_ret (v := .agg #[.bool false, .slice a4 (lim q1).length c4, .slice a6 (lim q2).length c6]) (by simp [results, Tryz.results164, go_sem, hc3, H0.out]) rfl ⟨a4, c4, a6, c6, rfl, (HF.out _ _ _ _ _ hbb3 HN4.out HN6.out _ ?_).1, (HF.out _ _ _ _ _ hbb3 HN4.out HN6.out _ ?_).2, ?_⟩
   ·exact (((Same.refl _ _).setCell (by simp) _).setCell (by simp) _).setCell (by simp) _
   ·exact (((Same.refl _ _).setCell (by simp) _).setCell (by simp) _).setCell (by simp) _
   ·exact ((((HZ.out _ hbb3).1.setCell (p := ⟨w.heap.size, 0, none⟩) (Nat.le_refl _) _).setCell (p := ⟨w.heap.size, 1, none⟩) (Nat.le_refl _) _).setCell (p := ⟨w.heap.size, 2, none⟩) (Nat.le_refl _) _)
  ·have hr : (true && decide (n ≠ 0)) = true := (HH.out true _ rfl (by simp [h0])).symm
   rw [hr]
   have h0' : (0 : Int) < ((lim q1).length : Int) := by omega
   have h0'' : 0 < (lim q1).length := by omega
   have h1 : ¬ lim q1 = [] := fun e => h0 (by rw [e]; rfl)
   clear hr HH h0
   go_enter Tryz.func164, Tryz.ntmps164
   go_wp2_with (first
   | (go_at_call 167; refine HG.out.mono ?_; rintro e w1 ⟨a3, c3, rfl, hN3, hbb1⟩; have HN3 := Lib.hid hN3; have hz1 := hbb1.size; clear hN3)
   | (go_at_call 178; refine (HD2.out _ _ hbb2 HN3'.out).mono ?_; rintro e w3 ⟨a6, c6, a7, c7, rfl, hN6, hN7, hb3⟩; have hbb3 := hbb2.trans (hb3.mono hz2); have HN4 := Lib.hid (HN4'.out.below hb3); have HN6 := Lib.hid (RU.mono (T := From (w.heap.size + 1)) (fun b hb => Nat.le_trans (HZ.out _ hbb2).2 hb) hN6); obtain ⟨hc3, hf3⟩ := HC.out _ hbb3; clear hN6 hN7)
   | (go_at_call 178; refine (HD.out _ _ hbb1 HN3.out).mono ?_; rintro e w2 ⟨a4, c4, a5, c5, rfl, hN4, hN5, hb2⟩; have hbb2 := hbb1.trans (hb2.mono hz1); have hz2 := hbb2.size; have HN3' := Lib.hid (HN3.out.same hb2); have HN4' := Lib.hid (RU.mono (T := From (w.heap.size + 1)) (fun b hb => Nat.le_trans (HZ.out _ hbb1).2 hb) hN4); clear hN4 hN5))
   refine bodyPost_ret (v := .agg #[.bool true, .slice a4 (lim q1).length c4, .slice a6 (lim q2).length c6]) (by simp [results, Tryz.results164, go_sem, hc3]) rfl ⟨a4, c4, a6, c6, rfl, (HF.out _ _ _ _ _ hbb3 HN4.out HN6.out _ ?_).1, (HF.out _ _ _ _ _ hbb3 HN4.out HN6.out _ ?_).2, ?_⟩
   ·exact (((Same.refl _ _).setCell (by simp) _).setCell (by simp) _).setCell (by simp) _
   ·exact (((Same.refl _ _).setCell (by simp) _).setCell (by simp) _).setCell (by simp) _
   ·exact ((((HZ.out _ hbb3).1.setCell (p := ⟨w.heap.size, 0, none⟩) (Nat.le_refl _) _).setCell (p := ⟨w.heap.size, 1, none⟩) (Nat.le_refl _) _).setCell (p := ⟨w.heap.size, 2, none⟩) (Nat.le_refl _) _)
set_option maxHeartbeats 2000000 in
theorem ratOfF (n d : Nat) (w : World) (hn : n < 9223372036854775808) (hd : d < 9223372036854775808) (hd0 : 0 < d) :
  Calls Tryz.prog 200 #[.int .i64 n, .int .i64 d] w fun e w' => ∃ a c a' c', e = .returned (.tuple #[.agg #[.bool false, .slice a (lim (n / Nat.gcd n d)).length c, .slice a' (lim (d / Nat.gcd n d)).length c'], .int .i64 0]) ∧ RU (From w.heap.size) w' (.slice a (lim (n / Nat.gcd n d)).length c) (lim (n / Nat.gcd n d)) ∧ RU (From w.heap.size) w' (.slice a' (lim (d / Nat.gcd n d)).length c') (lim (d / Nat.gcd n d)) ∧ Below w.heap.size w w' := by
 have hln : (lim n).length ≤ 96 := Nat.le_trans (qat (k := 2) (by rw [qam, qam, pw_zero]; omega)) (by omega)
 have hld : (lim d).length ≤ 96 := Nat.le_trans (qat (k := 2) (by rw [qam, qam, pw_zero]; omega)) (by omega)
 obtain ⟨Z, hZ⟩ : ∃ Z, Z = Obj.cells #[.bool false, .slice none 0 0, .slice none 0 0] 56 (0, 0) := ⟨_, rfl⟩
 have hb0 := qa1 w Z
 have hgA : (w.alloc Z).heap[w.heap.size]? = some (.cells #[.bool false, .slice none 0 0, .slice none 0 0] 56 (0, 0)) := by rw [hZ]; exact qa9 w _
 have hSn := fun W => ratSize n W hn
 have hSd := fun W => ratSize d W hd
 have hOn := fun W => natOf n W (by omega)
 have hOd := fun W => natOf d W (by omega)
 have hL := fun W u v (h1 : NumAt W u n) (h2 : NumAt W v d) => ratLowestF false u v n d W h1 h2 hln hld hd0
 have hnd : ¬ (n : Int) < 0 := by omega
 have hdd : ¬ (d : Int) < 0 := by omega
 have hd1 : ((d : Int) == 0) = false := beq_eq_false_iff_ne.2 (by omega)
 have hd2 : ¬ d = 0 := by omega
 obtain ⟨q1, hq1⟩ : ∃ q1, n / Nat.gcd n d = q1 := ⟨_, rfl⟩
 obtain ⟨q2, hq2⟩ : ∃ q2, d / Nat.gcd n d = q2 := ⟨_, rfl⟩
 simp only [Bool.false_and] at hL
 rw [hq1, hq2] at hL ⊢
 have hfin : ∀ (w3 : World) a c a' c', Below (w.alloc Z).heap.size (w.alloc Z) w3 → RU (From (w.heap.size + 1)) w3 (.slice a (lim q1).length c) (lim q1) → RU (From (w.heap.size + 1)) w3 (.slice a' (lim q2).length c') (lim q2) → ∀ w', Same (fun b => b ≠ w.heap.size) w3 w' → RU (From w.heap.size) w' (.slice a (lim q1).length c) (lim q1) ∧ RU (From w.heap.size) w' (.slice a' (lim q2).length c') (lim q2) := fun w3 a c a' c' hW k1 k2 w' hs => by
  have h1 : ∀ b, From (w.heap.size + 1) b → b ≠ w.heap.size := fun b hb e => by simp only [From] at hb; omega
  have h2 : ∀ b, From (w.heap.size + 1) b → From w.heap.size b := fun b hb => Nat.le_trans (Nat.le_succ _) hb
  exact ⟨RU.mono h2 (k1.same (hs.mono h1)), RU.mono h2 (k2.same (hs.mono h1))⟩
 have hcell : ∀ w3, Below (w.alloc Z).heap.size (w.alloc Z) w3 → (∀ i, w3.cell? ⟨w.heap.size, i, none⟩ = (#[.bool false, .slice none 0 0, .slice none 0 0] : Array Value)[i]?) ∧ (∀ i, w3.frozen? ⟨w.heap.size, i, none⟩ = false) := fun w3 hW => by
  obtain ⟨-, g2, g3⟩ := qa5 hW (by simp) hgA
  exact ⟨g2, g3⟩
 have hbz : ∀ w3, Below (w.alloc Z).heap.size (w.alloc Z) w3 → Below w.heap.size w w3 := fun w3 hW => hb0.trans (hW.mono (by simp))
 have HSn := Lib.hid hSn; have HSd := Lib.hid hSd; have HOn := Lib.hid hOn; have HOd := Lib.hid hOd; have HL := Lib.hid hL; have HF := Lib.hid hfin; have HC := Lib.hid hcell; have HZ := Lib.hid hbz
 clear hSn hSd hOn hOd hL hfin hcell hbz hq1 hq2 hb0 hgA hln hld
 subst hZ
 go_enter Tryz.func200, Tryz.ntmps200
 go_wp2_with (first
  | (go_at_call 104; have := hbb1; refine (HSd.out _).mono ?_; rintro e w0 ⟨rfl, rfl⟩)
  | (go_at_call 104; refine (HSn.out _).mono ?_; rintro e w0 ⟨rfl, rfl⟩)
  | (go_at_call 103; have := hbb1; refine (HOd.out _).mono ?_; rintro e w2 ⟨a4, c4, rfl, hN4, hb2⟩; have hbb2 := hbb1.trans (hb2.mono hz1); have hz2 := hbb2.size; have HN3' := Lib.hid (HN3.out.same hb2); have HN4 := Lib.hid hN4; clear hN4)
  | (go_at_call 103; refine (HOn.out _).mono ?_; rintro e w1 ⟨a3, c3, rfl, hN3, hbb1⟩; have hz1 := hbb1.size; have HN3 := Lib.hid hN3; clear hN3)
  | (go_at_call 164; refine (HL.out _ _ _ HN3'.out HN4.out).mono ?_; rintro e w3 ⟨a5, c5, a6, c6, rfl, hN5, hN6, hb3⟩; have hbb3 := hbb2.trans (hb3.mono hz2); have hm : ∀ b, From w2.heap.size b → From (w.heap.size + 1) b := (fun b hb => Nat.le_trans (by have := hbb2.size; simpa using this) hb); have HN5 := Lib.hid (RU.mono hm hN5); have HN6 := Lib.hid (RU.mono hm hN6); clear hm; obtain ⟨hc3, hf3⟩ := HC.out _ hbb3; clear hN5 hN6))
 refine bodyPost_ret (v := .tuple #[.agg #[.bool false, .slice a5 (lim q1).length c5, .slice a6 (lim q2).length c6], .int .i64 0]) (by simp [results, Tryz.results200, go_sem, hc3]) rfl ⟨a5, c5, a6, c6, rfl, (HF.out _ _ _ _ _ hbb3 HN5.out HN6.out _ ?_).1, (HF.out _ _ _ _ _ hbb3 HN5.out HN6.out _ ?_).2, ?_⟩
 ·exact (((Same.refl _ _).setCell (by simp) _).setCell (by simp) _).setCell (by simp) _
 ·exact (((Same.refl _ _).setCell (by simp) _).setCell (by simp) _).setCell (by simp) _
 ·exact ((((HZ.out _ hbb3).setCell (p := ⟨w.heap.size, 0, none⟩) (Nat.le_refl _) _).setCell (p := ⟨w.heap.size, 1, none⟩) (Nat.le_refl _) _).setCell (p := ⟨w.heap.size, 2, none⟩) (Nat.le_refl _) _)
set_option maxHeartbeats 1000000 in
theorem r4Size (n : Nat) (w : World) (hn : n < 9223372036854775808) :
  Calls Tryz.prog 216 #[.int .i64 n] w fun e w' => e = .returned (.int .u64 n) ∧ w = w' := by
 have h0 : ¬ (n : Int) < 0 := by omega
 have h1 := qa6 (x := (n : Int)) (by omega) (by omega)
 go_enter Tryz.func216, Tryz.ntmps216
 go_wp2
 go_ret
 exact ⟨rfl, rfl⟩
set_option maxHeartbeats 2000000 in
theorem r4LowestF (neg : Bool) (vn vd : Value) (n d : Nat) (w : World) (hn : NumAt w vn n) (hd : NumAt w vd d) (hln : (lim n).length ≤ 96) (hld : (lim d).length ≤ 96) (hd0 : 0 < d) :
  Calls Tryz.prog 113 #[.bool neg, vn, vd] w fun e w' => ∃ a c a' c', e = .returned (.agg #[.bool (neg && decide (n ≠ 0)), .slice a (lim (n / Nat.gcd n d)).length c, .slice a' (lim (d / Nat.gcd n d)).length c']) ∧ RU (From w.heap.size) w' (.slice a (lim (n / Nat.gcd n d)).length c) (lim (n / Nat.gcd n d)) ∧ RU (From w.heap.size) w' (.slice a' (lim (d / Nat.gcd n d)).length c') (lim (d / Nat.gcd n d)) ∧ Below w.heap.size w w' := by
 obtain ⟨Z, hZ⟩ : ∃ Z, Z = Obj.cells #[.bool false, .slice none 0 0, .slice none 0 0] 56 (0, 0) := ⟨_, rfl⟩
 have hb0 := qa1 w Z
 have hgA : (w.alloc Z).heap[w.heap.size]? = some (.cells #[.bool false, .slice none 0 0, .slice none 0 0] 56 (0, 0)) := by rw [hZ]; exact qa9 w _
 have hg0 : 0 < Nat.gcd n d := Nat.gcd_pos_of_pos_right n hd0
 have hgl : (lim (Nat.gcd n d)).length ≤ 96 := lim_le_of (Nat.gcd_le_right n hd0) hld
 have hn' := hn.same hb0
 have hd' := hd.same hb0
 have hG := r3Gcd vn vd n d (w.alloc Z) hn' hd' hln hld
 have hD := fun W v (hW : Below (w.alloc Z).heap.size (w.alloc Z) W) (hv : NumAt W v (Nat.gcd n d)) => r3DivF vn v n (Nat.gcd n d) W (hn'.same hW) hv hln hgl hg0
 have hD2 := fun W v (hW : Below (w.alloc Z).heap.size (w.alloc Z) W) (hv : NumAt W v (Nat.gcd n d)) => r3DivF vd v d (Nat.gcd n d) W (hd'.same hW) hv hld hgl hg0
 obtain ⟨gg, hgg⟩ : ∃ gg, Nat.gcd n d = gg := ⟨_, rfl⟩
 obtain ⟨q1, hq1⟩ : ∃ q1, n / gg = q1 := ⟨_, rfl⟩
 obtain ⟨q2, hq2⟩ : ∃ q2, d / gg = q2 := ⟨_, rfl⟩
 rw [hgg] at hG hD hD2 ⊢
 rw [hq1] at hD ⊢
 rw [hq2] at hD2 ⊢
 have hqn : (n ≠ 0) ↔ (lim q1).length ≠ 0 := by
  rw [← hgg] at hq1
  constructor
  ·intro h e
   have h2 := qax.1 (List.eq_nil_of_length_eq_zero e)
   have h3 := Nat.div_mul_cancel (Nat.gcd_dvd_left n d)
   rw [hq1, h2, Nat.zero_mul] at h3
   exact h h3.symm
  ·intro h e
   rw [e, Nat.zero_div] at hq1
   rw [← hq1, qap] at h
   exact h rfl
 have hfin : ∀ (w3 : World) a c a' c', Below (w.alloc Z).heap.size (w.alloc Z) w3 → RU (From (w.heap.size + 1)) w3 (.slice a (lim q1).length c) (lim q1) → RU (From (w.heap.size + 1)) w3 (.slice a' (lim q2).length c') (lim q2) → ∀ w', Same (fun b => b ≠ w.heap.size) w3 w' → RU (From w.heap.size) w' (.slice a (lim q1).length c) (lim q1) ∧ RU (From w.heap.size) w' (.slice a' (lim q2).length c') (lim q2) := fun w3 a c a' c' hW k1 k2 w' hs => by
  have h1 : ∀ b, From (w.heap.size + 1) b → b ≠ w.heap.size := fun b hb e => by simp only [From] at hb; omega
  have h2 : ∀ b, From (w.heap.size + 1) b → From w.heap.size b := fun b hb => Nat.le_trans (Nat.le_succ _) hb
  exact ⟨RU.mono h2 (k1.same (hs.mono h1)), RU.mono h2 (k2.same (hs.mono h1))⟩
 have hcell : ∀ w3, Below (w.alloc Z).heap.size (w.alloc Z) w3 → (∀ i, w3.cell? ⟨w.heap.size, i, none⟩ = (#[.bool false, .slice none 0 0, .slice none 0 0] : Array Value)[i]?) ∧ (∀ i, w3.frozen? ⟨w.heap.size, i, none⟩ = false) := fun w3 hW => by
  obtain ⟨-, g2, g3⟩ := qa5 hW (by simp) hgA
  exact ⟨g2, g3⟩
 have hbz : ∀ w3, Below (w.alloc Z).heap.size (w.alloc Z) w3 → Below w.heap.size w w3 ∧ w.heap.size + 1 ≤ w3.heap.size := fun w3 hW => ⟨hb0.trans (hW.mono (by simp)), by have := hW.size; simp at this; omega⟩
 obtain ⟨a1, c1, rfl⟩ := hn.shape
 obtain ⟨a2, c2, rfl⟩ := hd.shape
 obtain ⟨L1, hL1⟩ : ∃ L1, (lim n).length = L1 := ⟨_, rfl⟩
 obtain ⟨L2, hL2⟩ : ∃ L2, (lim d).length = L2 := ⟨_, rfl⟩
 rw [hL1] at hG hD ⊢
 rw [hL2] at hG hD2 ⊢
 have HG := Lib.hid hG; have HD := Lib.hid hD; have HD2 := Lib.hid hD2; have HF := Lib.hid hfin; have HC := Lib.hid hcell; have HZ := Lib.hid hbz
 have hfinal : ∀ (nb : Bool) (l : Nat), l = (lim q1).length → nb = (neg && decide (l ≠ 0)) → nb = (neg && decide (n ≠ 0)) := fun nb l e h => by
  rw [h, e]; congr 1; exact decide_eq_decide.2 hqn.symm
 have HH := Lib.hid hfinal
 clear hG hD hD2 hfin hcell hbz hfinal hqn hq1 hq2 hgg hn hd hn' hd' hL1 hL2 hln hld hb0 hgA hg0 hgl
 subst hZ
 cases neg
 ·have hr : (false && decide (n ≠ 0)) = false := rfl
  rw [hr]
  clear hr HH
  go_enter Tryz.func113, Tryz.ntmps113
  go_wp2_with (first
   | (go_at_call 174; refine HG.out.mono ?_; rintro e w1 ⟨a3, c3, rfl, hN3, hbb1⟩; have HN3 := Lib.hid hN3; have hz1 := hbb1.size; clear hN3)
   | (go_at_call 175; refine (HD2.out _ _ hbb2 HN3'.out).mono ?_; rintro e w3 ⟨a6, c6, a7, c7, rfl, hN6, hN7, hb3⟩; have hbb3 := hbb2.trans (hb3.mono hz2); have HN4 := Lib.hid (HN4'.out.below hb3); have HN6 := Lib.hid (RU.mono (T := From (w.heap.size + 1)) (fun b hb => Nat.le_trans (HZ.out _ hbb2).2 hb) hN6); obtain ⟨hc3, hf3⟩ := HC.out _ hbb3; clear hN6 hN7)
   | (go_at_call 175; refine (HD.out _ _ hbb1 HN3.out).mono ?_; rintro e w2 ⟨a4, c4, a5, c5, rfl, hN4, hN5, hb2⟩; have hbb2 := hbb1.trans (hb2.mono hz1); have hz2 := hbb2.size; have HN3' := Lib.hid (HN3.out.same hb2); have HN4' := Lib.hid (RU.mono (T := From (w.heap.size + 1)) (fun b hb => Nat.le_trans (HZ.out _ hbb1).2 hb) hN4); clear hN4 hN5))
  refine bodyPost_ret (v := .agg #[.bool false, .slice a4 (lim q1).length c4, .slice a6 (lim q2).length c6]) (by simp [results, Tryz.results113, go_sem, hc3]) rfl ⟨a4, c4, a6, c6, rfl, (HF.out _ _ _ _ _ hbb3 HN4.out HN6.out _ ?_).1, (HF.out _ _ _ _ _ hbb3 HN4.out HN6.out _ ?_).2, ?_⟩
  ·exact (((Same.refl _ _).setCell (by simp) _).setCell (by simp) _).setCell (by simp) _
  ·exact (((Same.refl _ _).setCell (by simp) _).setCell (by simp) _).setCell (by simp) _
  ·exact ((((HZ.out _ hbb3).1.setCell (p := ⟨w.heap.size, 0, none⟩) (Nat.le_refl _) _).setCell (p := ⟨w.heap.size, 1, none⟩) (Nat.le_refl _) _).setCell (p := ⟨w.heap.size, 2, none⟩) (Nat.le_refl _) _)
 ·by_cases h0 : (lim q1).length = 0
  ·have hr : (true && decide (n ≠ 0)) = false := (HH.out false _ rfl (by simp [h0])).symm
   rw [hr]
   have h0' : ¬ (0 : Int) < ((lim q1).length : Int) := by omega
   have H0 := Lib.hid h0
   clear hr HH h0
   go_enter Tryz.func113, Tryz.ntmps113
   go_wp2_with (first
   | (go_at_call 174; refine HG.out.mono ?_; rintro e w1 ⟨a3, c3, rfl, hN3, hbb1⟩; have HN3 := Lib.hid hN3; have hz1 := hbb1.size; clear hN3)
   | (go_at_call 175; refine (HD2.out _ _ hbb2 HN3'.out).mono ?_; rintro e w3 ⟨a6, c6, a7, c7, rfl, hN6, hN7, hb3⟩; have hbb3 := hbb2.trans (hb3.mono hz2); have HN4 := Lib.hid (HN4'.out.below hb3); have HN6 := Lib.hid (RU.mono (T := From (w.heap.size + 1)) (fun b hb => Nat.le_trans (HZ.out _ hbb2).2 hb) hN6); obtain ⟨hc3, hf3⟩ := HC.out _ hbb3; clear hN6 hN7)
   | (go_at_call 175; refine (HD.out _ _ hbb1 HN3.out).mono ?_; rintro e w2 ⟨a4, c4, a5, c5, rfl, hN4, hN5, hb2⟩; have hbb2 := hbb1.trans (hb2.mono hz1); have hz2 := hbb2.size; have HN3' := Lib.hid (HN3.out.same hb2); have HN4' := Lib.hid (RU.mono (T := From (w.heap.size + 1)) (fun b hb => Nat.le_trans (HZ.out _ hbb1).2 hb) hN4); clear hN4 hN5))
   refine bodyPost_ret (v := .agg #[.bool false, .slice a4 (lim q1).length c4, .slice a6 (lim q2).length c6]) (by simp [results, Tryz.results113, go_sem, hc3, H0.out]) rfl ⟨a4, c4, a6, c6, rfl, (HF.out _ _ _ _ _ hbb3 HN4.out HN6.out _ ?_).1, (HF.out _ _ _ _ _ hbb3 HN4.out HN6.out _ ?_).2, ?_⟩
   ·exact (((Same.refl _ _).setCell (by simp) _).setCell (by simp) _).setCell (by simp) _
   ·exact (((Same.refl _ _).setCell (by simp) _).setCell (by simp) _).setCell (by simp) _
   ·exact ((((HZ.out _ hbb3).1.setCell (p := ⟨w.heap.size, 0, none⟩) (Nat.le_refl _) _).setCell (p := ⟨w.heap.size, 1, none⟩) (Nat.le_refl _) _).setCell (p := ⟨w.heap.size, 2, none⟩) (Nat.le_refl _) _)
  ·have hr : (true && decide (n ≠ 0)) = true := (HH.out true _ rfl (by simp [h0])).symm
   rw [hr]
   have h0' : (0 : Int) < ((lim q1).length : Int) := by omega
   have h0'' : 0 < (lim q1).length := by omega
   have h1 : ¬ lim q1 = [] := fun e => h0 (by rw [e]; rfl)
   clear hr HH h0
   go_enter Tryz.func113, Tryz.ntmps113
   go_wp2_with (first
   | (go_at_call 174; refine HG.out.mono ?_; rintro e w1 ⟨a3, c3, rfl, hN3, hbb1⟩; have HN3 := Lib.hid hN3; have hz1 := hbb1.size; clear hN3)
   | (go_at_call 175; refine (HD2.out _ _ hbb2 HN3'.out).mono ?_; rintro e w3 ⟨a6, c6, a7, c7, rfl, hN6, hN7, hb3⟩; have hbb3 := hbb2.trans (hb3.mono hz2); have HN4 := Lib.hid (HN4'.out.below hb3); have HN6 := Lib.hid (RU.mono (T := From (w.heap.size + 1)) (fun b hb => Nat.le_trans (HZ.out _ hbb2).2 hb) hN6); obtain ⟨hc3, hf3⟩ := HC.out _ hbb3; clear hN6 hN7)
   | (go_at_call 175; refine (HD.out _ _ hbb1 HN3.out).mono ?_; rintro e w2 ⟨a4, c4, a5, c5, rfl, hN4, hN5, hb2⟩; have hbb2 := hbb1.trans (hb2.mono hz1); have hz2 := hbb2.size; have HN3' := Lib.hid (HN3.out.same hb2); have HN4' := Lib.hid (RU.mono (T := From (w.heap.size + 1)) (fun b hb => Nat.le_trans (HZ.out _ hbb1).2 hb) hN4); clear hN4 hN5))
   refine bodyPost_ret (v := .agg #[.bool true, .slice a4 (lim q1).length c4, .slice a6 (lim q2).length c6]) (by simp [results, Tryz.results113, go_sem, hc3]) rfl ⟨a4, c4, a6, c6, rfl, (HF.out _ _ _ _ _ hbb3 HN4.out HN6.out _ ?_).1, (HF.out _ _ _ _ _ hbb3 HN4.out HN6.out _ ?_).2, ?_⟩
   ·exact (((Same.refl _ _).setCell (by simp) _).setCell (by simp) _).setCell (by simp) _
   ·exact (((Same.refl _ _).setCell (by simp) _).setCell (by simp) _).setCell (by simp) _
   ·exact ((((HZ.out _ hbb3).1.setCell (p := ⟨w.heap.size, 0, none⟩) (Nat.le_refl _) _).setCell (p := ⟨w.heap.size, 1, none⟩) (Nat.le_refl _) _).setCell (p := ⟨w.heap.size, 2, none⟩) (Nat.le_refl _) _)
set_option maxHeartbeats 2000000 in
theorem r4OfF (n d : Nat) (w : World) (hn : n < 9223372036854775808) (hd : d < 9223372036854775808) (hd0 : 0 < d) :
  Calls Tryz.prog 187 #[.int .i64 n, .int .i64 d] w fun e w' => ∃ a c a' c', e = .returned (.tuple #[.agg #[.bool false, .slice a (lim (n / Nat.gcd n d)).length c, .slice a' (lim (d / Nat.gcd n d)).length c'], .int .i64 0]) ∧ RU (From w.heap.size) w' (.slice a (lim (n / Nat.gcd n d)).length c) (lim (n / Nat.gcd n d)) ∧ RU (From w.heap.size) w' (.slice a' (lim (d / Nat.gcd n d)).length c') (lim (d / Nat.gcd n d)) ∧ Below w.heap.size w w' := by
 have hln : (lim n).length ≤ 96 := Nat.le_trans (qat (k := 2) (by rw [qam, qam, pw_zero]; omega)) (by omega)
 have hld : (lim d).length ≤ 96 := Nat.le_trans (qat (k := 2) (by rw [qam, qam, pw_zero]; omega)) (by omega)
 obtain ⟨Z, hZ⟩ : ∃ Z, Z = Obj.cells #[.bool false, .slice none 0 0, .slice none 0 0] 56 (0, 0) := ⟨_, rfl⟩
 have hb0 := qa1 w Z
 have hgA : (w.alloc Z).heap[w.heap.size]? = some (.cells #[.bool false, .slice none 0 0, .slice none 0 0] 56 (0, 0)) := by rw [hZ]; exact qa9 w _
 have hSn := fun W => r4Size n W hn
 have hSd := fun W => r4Size d W hd
 have hOn := fun W => r3Of n W (by omega)
 have hOd := fun W => r3Of d W (by omega)
 have hL := fun W u v (h1 : NumAt W u n) (h2 : NumAt W v d) => r4LowestF false u v n d W h1 h2 hln hld hd0
 have hnd : ¬ (n : Int) < 0 := by omega
 have hdd : ¬ (d : Int) < 0 := by omega
 have hd1 : ((d : Int) == 0) = false := beq_eq_false_iff_ne.2 (by omega)
 have hd2 : ¬ d = 0 := by omega
 obtain ⟨q1, hq1⟩ : ∃ q1, n / Nat.gcd n d = q1 := ⟨_, rfl⟩
 obtain ⟨q2, hq2⟩ : ∃ q2, d / Nat.gcd n d = q2 := ⟨_, rfl⟩
 simp only [Bool.false_and] at hL
 rw [hq1, hq2] at hL ⊢
 have hfin : ∀ (w3 : World) a c a' c', Below (w.alloc Z).heap.size (w.alloc Z) w3 → RU (From (w.heap.size + 1)) w3 (.slice a (lim q1).length c) (lim q1) → RU (From (w.heap.size + 1)) w3 (.slice a' (lim q2).length c') (lim q2) → ∀ w', Same (fun b => b ≠ w.heap.size) w3 w' → RU (From w.heap.size) w' (.slice a (lim q1).length c) (lim q1) ∧ RU (From w.heap.size) w' (.slice a' (lim q2).length c') (lim q2) := fun w3 a c a' c' hW k1 k2 w' hs => by
  have h1 : ∀ b, From (w.heap.size + 1) b → b ≠ w.heap.size := fun b hb e => by simp only [From] at hb; omega
  have h2 : ∀ b, From (w.heap.size + 1) b → From w.heap.size b := fun b hb => Nat.le_trans (Nat.le_succ _) hb
  exact ⟨RU.mono h2 (k1.same (hs.mono h1)), RU.mono h2 (k2.same (hs.mono h1))⟩
 have hcell : ∀ w3, Below (w.alloc Z).heap.size (w.alloc Z) w3 → (∀ i, w3.cell? ⟨w.heap.size, i, none⟩ = (#[.bool false, .slice none 0 0, .slice none 0 0] : Array Value)[i]?) ∧ (∀ i, w3.frozen? ⟨w.heap.size, i, none⟩ = false) := fun w3 hW => by
  obtain ⟨-, g2, g3⟩ := qa5 hW (by simp) hgA
  exact ⟨g2, g3⟩
 have hbz : ∀ w3, Below (w.alloc Z).heap.size (w.alloc Z) w3 → Below w.heap.size w w3 := fun w3 hW => hb0.trans (hW.mono (by simp))
 have HSn := Lib.hid hSn; have HSd := Lib.hid hSd; have HOn := Lib.hid hOn; have HOd := Lib.hid hOd; have HL := Lib.hid hL; have HF := Lib.hid hfin; have HC := Lib.hid hcell; have HZ := Lib.hid hbz
 clear hSn hSd hOn hOd hL hfin hcell hbz hq1 hq2 hb0 hgA hln hld
 subst hZ
 go_enter Tryz.func187, Tryz.ntmps187
 go_wp2_with (first
  | (go_at_call 216; have := hbb1; refine (HSd.out _).mono ?_; rintro e w0 ⟨rfl, rfl⟩)
  | (go_at_call 216; refine (HSn.out _).mono ?_; rintro e w0 ⟨rfl, rfl⟩)
  | (go_at_call 191; have := hbb1; refine (HOd.out _).mono ?_; rintro e w2 ⟨a4, c4, rfl, hN4, hb2⟩; have hbb2 := hbb1.trans (hb2.mono hz1); have hz2 := hbb2.size; have HN3' := Lib.hid (HN3.out.same hb2); have HN4 := Lib.hid hN4; clear hN4)
  | (go_at_call 191; refine (HOn.out _).mono ?_; rintro e w1 ⟨a3, c3, rfl, hN3, hbb1⟩; have hz1 := hbb1.size; have HN3 := Lib.hid hN3; clear hN3)
  | (go_at_call 113; refine (HL.out _ _ _ HN3'.out HN4.out).mono ?_; rintro e w3 ⟨a5, c5, a6, c6, rfl, hN5, hN6, hb3⟩; have hbb3 := hbb2.trans (hb3.mono hz2); have hm : ∀ b, From w2.heap.size b → From (w.heap.size + 1) b := (fun b hb => Nat.le_trans (by have := hbb2.size; simpa using this) hb); have HN5 := Lib.hid (RU.mono hm hN5); have HN6 := Lib.hid (RU.mono hm hN6); clear hm; obtain ⟨hc3, hf3⟩ := HC.out _ hbb3; clear hN5 hN6))
 refine bodyPost_ret (v := .tuple #[.agg #[.bool false, .slice a5 (lim q1).length c5, .slice a6 (lim q2).length c6], .int .i64 0]) (by simp [results, Tryz.results187, go_sem, hc3]) rfl ⟨a5, c5, a6, c6, rfl, (HF.out _ _ _ _ _ hbb3 HN5.out HN6.out _ ?_).1, (HF.out _ _ _ _ _ hbb3 HN5.out HN6.out _ ?_).2, ?_⟩
 ·exact (((Same.refl _ _).setCell (by simp) _).setCell (by simp) _).setCell (by simp) _
 ·exact (((Same.refl _ _).setCell (by simp) _).setCell (by simp) _).setCell (by simp) _
 ·exact ((((HZ.out _ hbb3).setCell (p := ⟨w.heap.size, 0, none⟩) (Nat.le_refl _) _).setCell (p := ⟨w.heap.size, 1, none⟩) (Nat.le_refl _) _).setCell (p := ⟨w.heap.size, 2, none⟩) (Nat.le_refl _) _)
end Go.Proofs.YthcbkhfmdginiaaGreat
