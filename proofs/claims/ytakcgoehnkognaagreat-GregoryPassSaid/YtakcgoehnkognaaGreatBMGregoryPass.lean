/- The law GregoryPass returns true whatever the input, and every argument reads behind the call as it read before. No condition. -/
import Derived.Test.YtakcgoehnkognaaGreatBGWakG
import Derived.Test.YtakcgoehnkognaaGreatBGRat2
import Derived.Test.YtakcgoehnkognaaGreatBGRen
import Derived.Test.YtakcgoehnkognaaGreatRows
import Derived.Test.YtakcgoehnkognaaGreatBGSam
import Derived.WalkKit
import Derived.ProofKit
import Derived.OpenShut
import Derived.ShutString
import Derived.ChangeOld
import Derived.Below

/- The law GregoryPass: its walk. -/
namespace Go.Proofs.YtakcgoehnkognaaGreat
open Go Go.RowKit Go.Shelf Limb

theorem pos_low {w : World} {v1 v2 : Value} {n d : Nat} (h1 : NumAt w v1 (n / Nat.gcd n d)) (h2 : NumAt w v2 (d / Nat.gcd n d)) (hd : 0 < d) (hln : (lim n).length ≤ 96) (hld : (lim d).length ≤ 96) : Pos w v1 v2 (n / Nat.gcd n d) (d / Nat.gcd n d) := by
  have hg : 0 < Nat.gcd n d := Nat.gcd_pos_of_pos_right _ hd
  have l1 := Nat.le_trans (lim_length_mono (Nat.div_le_self n (Nat.gcd n d))) hln
  have l2 := Nat.le_trans (lim_length_mono (Nat.div_le_self d (Nat.gcd n d))) hld
  have hp : 0 < d / Nat.gcd n d := Nat.div_pos (Nat.le_of_dvd hd (Nat.gcd_dvd_right n d)) hg
  have hc : Nat.gcd (n / Nat.gcd n d) (d / Nat.gcd n d) = 1 := by rw [Nat.gcd_div (Nat.gcd_dvd_left n d) (Nat.gcd_dvd_right n d), Nat.div_self hg]
  exact ⟨h1, h2, by rw [ratChk_ok l1 l2 (by omega) hc (by simp)]; rfl, l1, l2, hp⟩
theorem pos_nat {w : World} {v1 v2 : Value} {n : Nat} (h1 : NumAt w v1 n) (h2 : NumAt w v2 1) (hl : n < 9223372036854775808) : Pos w v1 v2 n 1 := by
  have := lim_small_len hl
  have e1 := lim1
  exact ⟨h1, h2, by rw [e1]; exact chk_whole hl, by omega, by rw [e1]; decide, by omega⟩
/-- A ratio kept in a box, as a result. -/
def MulR (wr : World) (P Q : Nat) (s1 s2 : Value) (wc : World) : Prop := ∃ g a c a' c', s1 = .pointer (some ⟨g, 0, none⟩) ∧ s2 = .int .i64 0 ∧ wc.heap[g]? = some (.cells #[.bool false, .slice a (lim P).length c, .slice a' (lim Q).length c'] 51 (0, 0)) ∧
  NumAt wc (.slice a (lim P).length c) P ∧ NumAt wc (.slice a' (lim Q).length c') Q ∧ Below wr.heap.size wr wc
theorem MulR.late {wr w4 : World} {P Q : Nat} {a a' : Option Addr} {c c' : Nat} (k1 : RU Any w4 (.slice a (lim P).length c) (lim P)) (k2 : RU Any w4 (.slice a' (lim Q).length c') (lim Q)) (hb : Below wr.heap.size wr w4) :
    MulR wr P Q (.pointer (some ⟨w4.heap.size, 0, none⟩)) (.int .i64 0) ((((w4.alloc (.cells #[.bool false, .slice none 0 0, .slice none 0 0] 51)).setCell ⟨w4.heap.size, 0, none⟩ (.bool false)).setCell ⟨w4.heap.size, 1, none⟩ (.slice a (lim P).length c)).setCell ⟨w4.heap.size, 2, none⟩ (.slice a' (lim Q).length c')) := by
  have hb2 := below_new w4 (.cells #[.bool false, .slice none 0 0, .slice none 0 0] 51)
  have hg := box_new w4 (.cells #[.bool false, .slice none 0 0, .slice none 0 0] 51)
  have hb3 : Below w4.heap.size w4 ((((w4.alloc (.cells #[.bool false, .slice none 0 0, .slice none 0 0] 51)).setCell ⟨w4.heap.size, 0, none⟩ (.bool false)).setCell ⟨w4.heap.size, 1, none⟩ (.slice a (lim P).length c)).setCell ⟨w4.heap.size, 2, none⟩ (.slice a' (lim Q).length c')) :=
    ((hb2.setCell (p := ⟨w4.heap.size, 0, none⟩) (Nat.le_refl _) _).setCell (p := ⟨w4.heap.size, 1, none⟩) (Nat.le_refl _) _).setCell (p := ⟨w4.heap.size, 2, none⟩) (Nat.le_refl _) _
  exact ⟨_, _, _, _, _, rfl, rfl, by have := heap_setCell_at (o := 2) (heap_setCell_at (o := 1) (heap_setCell_at (o := 0) hg (.bool false)) (.slice a (lim P).length c)) (.slice a' (lim Q).length c'); simpa using this, NumAt.of (RU.below k1 hb3), NumAt.of (RU.below k2 hb3), bt hb hb3⟩
theorem MulR.laid {wr w4 : World} {P Q : Nat} {a a' : Option Addr} {c c' : Nat} (k1 : RU Any w4 (.slice a (lim P).length c) (lim P)) (k2 : RU Any w4 (.slice a' (lim Q).length c') (lim Q)) (hb : Below wr.heap.size wr w4) :
    MulR wr P Q (.pointer (some ⟨w4.heap.size, 0, none⟩)) (.int .i64 0) (w4.alloc (.cells #[.bool false, .slice a (lim P).length c, .slice a' (lim Q).length c'] 51)) := by
  have hb2 := below_new w4 (.cells #[.bool false, .slice a (lim P).length c, .slice a' (lim Q).length c'] 51)
  exact ⟨_, _, _, _, _, rfl, rfl, box_new _ _, NumAt.of (RU.below k1 hb2), NumAt.of (RU.below k2 hb2), bt hb hb2⟩
theorem MulR.stored {wr w4 : World} {P Q g : Nat} {a a' : Option Addr} {c c' : Nat} (hg : w4.heap[g]? = some (.cells #[.bool false, .slice none 0 0, .slice none 0 0] 51 (0, 0))) (k1 : RU Any w4 (.slice a (lim P).length c) (lim P)) (k2 : RU Any w4 (.slice a' (lim Q).length c') (lim Q)) (hb : Below wr.heap.size wr w4) (hgw : wr.heap.size ≤ g) :
    MulR wr P Q (.pointer (some ⟨g, 0, none⟩)) (.int .i64 0) (((w4.setCell ⟨g, 0, none⟩ (.bool false)).setCell ⟨g, 1, none⟩ (.slice a (lim P).length c)).setCell ⟨g, 2, none⟩ (.slice a' (lim Q).length c')) := by
  have hs : Same (fun b => b ≠ g) w4 (((w4.setCell ⟨g, 0, none⟩ (.bool false)).setCell ⟨g, 1, none⟩ (.slice a (lim P).length c)).setCell ⟨g, 2, none⟩ (.slice a' (lim Q).length c')) := (((Same.refl _ _).setCell (p := ⟨g, 0, none⟩) (by simp) _).setCell (p := ⟨g, 1, none⟩) (by simp) _).setCell (p := ⟨g, 2, none⟩) (by simp) _
  refine ⟨_, _, _, _, _, rfl, rfl, by have := heap_setCell_at (o := 2) (heap_setCell_at (o := 1) (heap_setCell_at (o := 0) hg (.bool false)) (.slice a (lim P).length c)) (.slice a' (lim Q).length c'); simpa using this, ?_, ?_, ((hb.setCell (p := ⟨g, 0, none⟩) hgw _).setCell (p := ⟨g, 1, none⟩) hgw _).setCell (p := ⟨g, 2, none⟩) hgw _⟩
  · exact NumAt.of ((k1.avoid hg (bss_ne _ _ _ (by simp) (by simp))).same hs)
  · exact NumAt.of ((k2.avoid hg (bss_ne _ _ _ (by simp) (by simp))).same hs)
theorem pass_floor {a n b : Nat} (hn : 0 < n) : mulN (a / Nat.gcd a n) (n / Nat.gcd a n) (n - b) 1 / mulD (a / Nat.gcd a n) (n / Nat.gcd a n) (n - b) 1 = a * (n - b) / n := by
  have hg : 0 < Nat.gcd a n := Nat.gcd_pos_of_pos_right _ hn
  unfold mulN mulD
  obtain ⟨a', ha⟩ := Nat.gcd_dvd_left a n
  obtain ⟨n', hn'⟩ := Nat.gcd_dvd_right a n
  generalize Nat.gcd a n = g at *
  subst ha
  rw [Nat.mul_div_cancel_left _ hg, Nat.mul_one, hn', Nat.mul_div_cancel_left _ hg]
  have hn0 : 0 < n' := Nat.pos_of_ne_zero fun e => by rw [e, Nat.mul_zero] at hn'; omega
  have hg2 : 0 < Nat.gcd (a' * (g * n' - b)) n' := Nat.gcd_pos_of_pos_right _ hn0
  have e1 : g * a' * (g * n' - b) / (g * n') = a' * (g * n' - b) / n' := by rw [Nat.mul_assoc]; exact Nat.mul_div_mul_left _ _ hg
  rw [e1]
  generalize a' * (g * n' - b) = X at *
  obtain ⟨x, hx⟩ := Nat.gcd_dvd_left X n'
  obtain ⟨y, hy⟩ := Nat.gcd_dvd_right X n'
  generalize Nat.gcd X n' = h at *
  subst hx
  rw [Nat.mul_div_cancel_left _ hg2, hy, Nat.mul_div_cancel_left _ hg2]
  exact (Nat.mul_div_mul_left _ _ hg2).symm
set_option maxHeartbeats 8000000 in
set_option maxRecDepth 100000 in
set_option linter.unusedSimpArgs false in
theorem law_gpass (value n most : Int) (w : World) (hv : (Lit.int .i64 value).wf = true) (hn : (Lit.int .i64 n).wf = true) (_ : (Lit.int .i64 most).wf = true) :
    Calls Tryz.prog 8 #[.int .i64 value, .int .i64 n, .int .i64 most] w fun e w' => e = .returned (.bool true) ∧ Below w.heap.size w w' := by
  have hP := fun W b => grePass value n b W hv hn
  by_cases hok : (0 ≤ value ∧ value ≤ 1000000000) ∧ (0 ≤ most ∧ most ≤ n) ∧ (1 ≤ n ∧ n ≤ 1000000000000000)
  · have hp0 : passI value n most = 0 := by rw [passI, if_pos hok]
    obtain ⟨⟨v0, v1⟩, ⟨m0, m1⟩, n0, n1⟩ := hok
    have hp1 : passI value n n = 0 := by rw [passI, if_pos (by omega)]
    have hp2 : passI value n 0 = 0 := by rw [passI, if_pos (by omega)]
    have hz1 : passV value n n = 0 := by rw [passV, if_pos hp1]; simp
    have hz2 : passV value n 0 = value := by rw [passV, if_pos hp2, Int.sub_zero]; exact Int.mul_ediv_cancel _ (by omega)
    have hz0 : passV value n most = value * (n - most) / n := by rw [passV, if_pos hp0]
    have hS := fun W => quoShare n value n W hn hv hn
    have hall : allB [n, value, n] = true := by simp [allB, inB2]; omega
    have hnv : n * value / n = value := by rw [Int.mul_comm]; exact Int.mul_ediv_cancel _ (by omega)
    have hs0 : shareI n value n = 0 := by rw [shareI, if_pos hall, if_neg (by omega), hnv, if_pos (by omega)]
    have hs1 : shareV n value n = value := by rw [shareV, if_pos hs0, hnv]
    have h1 := fun W => hP W most
    have h2 := fun W => hP W n
    have h3 := fun W => hP W 0
    simp only [hp0] at h1
    simp only [hp1, hz1] at h2
    simp only [hp2, hz2] at h3
    simp only [hs0, hs1] at hS
    have hle : passV value n most ≤ value := by rw [hz0]; exact (pass_bound v0 ⟨m0, m1⟩ n0).2
    obtain ⟨a, ha⟩ : ∃ a : Nat, value = (a : Int) := ⟨value.toNat, by omega⟩
    obtain ⟨N, hN⟩ : ∃ N : Nat, n = (N : Int) := ⟨n.toNat, by omega⟩
    obtain ⟨b, hb⟩ : ∃ b : Nat, most = (b : Int) := ⟨most.toNat, by omega⟩
    have hN0 : 0 < N := by omega
    have hd : n - most = ((N - b : Nat) : Int) := by omega
    have hOf := fun W => ratOfF a N W (by omega) (by omega) hN0
    have hWh := fun W => ratWhole (N - b) W (by omega)
    unfold GivesW at hWh
    rw [← ha, ← hN] at hOf
    rw [← hd] at hWh
    have la := lim_small_len (n := a) (by omega)
    have lN := lim_small_len (n := N) (by omega)
    have hPL := fun W v1 v2 k1 k2 => pos_low (w := W) (v1 := v1) (v2 := v2) (n := a) (d := N) k1 k2 hN0 (by omega) (by omega)
    have lb := lim_small_len (n := N - b) (by omega)
    obtain ⟨m1', hm1⟩ : ∃ m, a / Nat.gcd a N = m := ⟨_, rfl⟩
    obtain ⟨n1', hn1⟩ : ∃ m, N / Nat.gcd a N = m := ⟨_, rfl⟩
    have hfl := pass_floor (a := a) (b := b) hN0
    have hm1le : m1' ≤ a := by rw [← hm1]; exact Nat.div_le_self _ _
    have hn1le : n1' ≤ N := by rw [← hn1]; exact Nat.div_le_self _ _
    have lf1 : (lim (m1' * (N - b))).length ≤ 96 := Nat.le_trans (lim_length_le (k := 4) (by
      have h1 : m1' * (N - b) ≤ 1000000000 * 1000000000000000 := Nat.mul_le_mul (by omega) (by omega)
      simp only [pw_succ, pw_zero]; omega)) (by omega)
    have lf2 : (lim (n1' * 1)).length ≤ 96 := Nat.le_trans (lim_length_le (k := 2) (by simp only [pw_succ, pw_zero]; omega)) (by omega)
    simp only [hm1, hn1] at hOf hPL hfl
    have hMu := fun W v1 v2 v3 v4 (k1 : NumAt W v1 m1') (k2 : NumAt W v2 n1') (k3 : NumAt W v3 (N - b)) (k4 : NumAt W v4 1) => ratMul v1 v2 v3 v4 m1' n1' (N - b) 1 W (hPL W v1 v2 k1 k2) (pos_nat k3 k4 (by omega)) lf1 lf2
    unfold GivesPQ at hMu
    obtain ⟨P, hPP⟩ : ∃ P, mulN m1' n1' (N - b) 1 = P := ⟨_, rfl⟩
    obtain ⟨Q, hQQ⟩ : ∃ Q, mulD m1' n1' (N - b) 1 = Q := ⟨_, rfl⟩
    have hPQ : Nat.gcd P Q = 1 ∧ 0 < Q ∧ (lim P).length ≤ 96 ∧ (lim Q).length ≤ 96 := by
      have hn1p : 0 < n1' * 1 := by rw [← hn1, Nat.mul_one]; exact Nat.div_pos (Nat.le_of_dvd hN0 (Nat.gcd_dvd_right a N)) (Nat.gcd_pos_of_pos_right _ hN0)
      have hg := Nat.gcd_pos_of_pos_right (m1' * (N - b)) hn1p
      refine ⟨by rw [← hPP, ← hQQ, mulN, mulD, Nat.gcd_div (Nat.gcd_dvd_left _ _) (Nat.gcd_dvd_right _ _), Nat.div_self hg], ?_, ?_, ?_⟩
      · rw [← hQQ, mulD]; exact Nat.div_pos (Nat.le_of_dvd hn1p (Nat.gcd_dvd_right _ _)) hg
      · rw [← hPP, mulN]; exact Nat.le_trans (lim_length_mono (Nat.div_le_self _ _)) lf1
      · rw [← hQQ, mulD]; exact Nat.le_trans (lim_length_mono (Nat.div_le_self _ _)) lf2
    have hFl := fun W v1 v2 (k1 : NumAt W v1 P) (k2 : NumAt W v2 Q) => ratFloor v1 v2 P Q W ⟨k1, k2, by rw [ratChk_ok hPQ.2.2.1 hPQ.2.2.2 (by omega) hPQ.1 (by simp)]; rfl, hPQ.2.2.1, hPQ.2.2.2, hPQ.2.1⟩ (by
      rw [← hPP, ← hQQ, hfl]
      have : a * (N - b) / N ≤ a := Nat.div_le_of_le_mul (by rw [Nat.mul_comm N a]; exact Nat.mul_le_mul_left _ (Nat.sub_le _ _))
      omega)
    have hflz : ((P / Q : Nat) : Int) = passV value n most := by
      rw [← hPP, ← hQQ, hfl, hz0, hd, ha, hN]; simp
    rw [hPP, hQQ] at hMu
    simp only [hflz] at hFl
    obtain ⟨z, hz⟩ : ∃ z, passV value n most = z := ⟨_, rfl⟩
    simp only [hz] at h1 hFl hle
    have hwd : IntKind.i64.wrap (n - most) = n - most := i64_small15 (by omega) (by omega)
    obtain ⟨dm, hdm⟩ : ∃ d, n - most = d := ⟨_, rfl⟩
    rw [hdm] at hwd hWh
    have e1L := lim1
    have g1 : ¬ value < 0 := by omega
    have g2 : ¬ 1000000000 < value := by omega
    have g3 : ¬ n < 1 := by omega
    have g4 : ¬ 1000000000000000 < n := by omega
    have g5 : ¬ most < 0 := by omega
    have g6 : ¬ n < most := by omega
    obtain ⟨L1, hL1⟩ : ∃ L, (lim m1').length = L := ⟨_, rfl⟩
    obtain ⟨L2, hL2⟩ : ∃ L, (lim n1').length = L := ⟨_, rfl⟩
    obtain ⟨L3, hL3⟩ : ∃ L, (lim (N - b)).length = L := ⟨_, rfl⟩
    simp only [hL1, hL2] at hOf
    simp only [hL3] at hWh
    have H1 := Lib.hid h1; have H2 := Lib.hid h2; have H3 := Lib.hid h3; have HS := Lib.hid hS; have HOf := Lib.hid hOf; have HWh := Lib.hid hWh; have HMu := Lib.hid hMu; have HFl := Lib.hid hFl; have E1L := Lib.hid e1L; have HLe := Lib.hid hle
    clear h1 h2 h3 hS hOf hWh hMu hFl e1L hle hP hp0 hp1 hp2 hz0 hz1 hz2 hs0 hs1 hall hnv hd ha hN hb la lN lb hPL hm1 hn1 hfl hm1le hn1le lf1 lf2 hPP hQQ hPQ hflz hz hL1 hL2 hL3 hN0 v0 v1 m0 m1 n0 n1 hv hn
    have st0 := Lib.hid True.intro
    go_enter Tryz.func8, Tryz.ntmps8
    go_upto_region 8 with (first
      | (have := st4; go_at_call 25; clear st4; refine (HOf.out _).mono ?_; rintro e w5 ⟨a1, c1, a2, c2, rfl, k1, k2, hb⟩; have B5 := Lib.hid (bt B4.out hb); have K1 := Lib.hid (NumAt.of k1); have K2 := Lib.hid (NumAt.of k2); clear k1 k2 hb this)
      | (have := st3; go_at_call 17; clear st3; refine (H3.out _).mono ?_; rintro e w4 ⟨rfl, hb⟩; have B4 := Lib.hid (bt B3.out hb); clear hb this; have st4 := Lib.hid True.intro)
      | (have := st2; go_at_call 17; clear st2; refine (H2.out _).mono ?_; rintro e w3 ⟨rfl, hb⟩; have B3 := Lib.hid (bt B2.out hb); clear hb this; have st3 := Lib.hid True.intro)
      | (have := st1; go_at_call 37; clear st1; refine (HS.out _).mono ?_; rintro e w2 ⟨rfl, hb⟩; have B2 := Lib.hid (bt B1.out hb); clear hb this; have st2 := Lib.hid True.intro)
      | (have := st0; go_at_call 17; clear st0; refine (H1.out _).mono ?_; rintro e w1 ⟨rfl, hb⟩; have B1 := Lib.hid hb; clear hb this; have st1 := Lib.hid True.intro))
    obtain ⟨X, hX⟩ : ∃ X, X = w5.alloc (.cells #[.bool false, .slice a1 L1 c1, .slice a2 L2 c2] 51) := ⟨_, rfl⟩
    have hbX : Below w5.heap.size w5 X := by rw [hX]; exact below_new _ _
    have gX : X.heap[w5.heap.size]? = some (.cells #[.bool false, .slice a1 L1 c1, .slice a2 L2 c2] 51 (0, 0)) := by rw [hX]; exact box_new _ _
    rw [← hX]
    have BX := Lib.hid (bt B5.out hbX); have K1X := Lib.hid (K1.out.same hbX); have K2X := Lib.hid (K2.out.same hbX)
    have hS0 : ∀ W, Below X.heap.size X W → W.cell? ⟨w5.heap.size, 0, none⟩ = some (.bool false) ∧ W.cell? ⟨w5.heap.size, 1, none⟩ = some (.slice a1 L1 c1) ∧ W.cell? ⟨w5.heap.size, 2, none⟩ = some (.slice a2 L2 c2) := fun W hW => by
      obtain ⟨j1, j2, j3, -⟩ := box3 gX hW
      exact ⟨j1, j2, j3⟩
    have HS0 := Lib.hid hS0
    clear hX hbX gX hS0
    go_cut [17, 18] from 86 to 94 (fun s17 s18 wc => MulR X P Q s17 s18 wc)
    case first =>
      refine wp_region_L (S := (fun W : World => W.cell? ⟨w5.heap.size, 0, none⟩ = some (.bool false) ∧ W.cell? ⟨w5.heap.size, 1, none⟩ = some (.slice a1 L1 c1) ∧ W.cell? ⟨w5.heap.size, 2, none⟩ = some (.slice a2 L2 c2))) (L := []) (by kernel_rfl) (HS0.out _ (Below.drew (Below.refl _ X))) (fun hHeld => ?_)
      refine wpAnyL_take (i := 0) (v := ?_) rfl (by kernel_rfl) (by kernel_rfl) (by kernel_rfl) (by kernel_rfl) (fun _ _ _ h => h) (Or.inl ⟨by kernel_rfl, ?_⟩) hHeld ?_
      rotate_left
      · intro w hSw; (try dsimp only at hSw); go_simp; try (with_reducible rfl)
      (try simp only [Act.put, List.getElem_toArray, List.getElem_cons_zero, List.getElem_cons_succ, List.setIfInBounds_toArray, List.set_cons_zero, List.set_cons_succ])
      refine wpAnyL_take (i := 1) (v := ?_) rfl (by kernel_rfl) (by kernel_rfl) (by kernel_rfl) (by kernel_rfl) (fun _ _ _ h => h) (Or.inl ⟨by kernel_rfl, ?_⟩) hHeld ?_
      rotate_left
      · intro w hSw; (try dsimp only at hSw); go_simp; try (with_reducible rfl)
      (try simp only [Act.put, List.getElem_toArray, List.getElem_cons_zero, List.getElem_cons_succ, List.setIfInBounds_toArray, List.set_cons_zero, List.set_cons_succ])
      refine wpAnyL_take (i := 2) (v := ?_) rfl (by kernel_rfl) (by kernel_rfl) (by kernel_rfl) (by kernel_rfl) (fun _ _ _ h => h) (Or.inl ⟨by kernel_rfl, ?_⟩) hHeld ?_
      rotate_left
      · intro w hSw; (try dsimp only at hSw); go_simp; try (with_reducible rfl)
      (try simp only [Act.put, List.getElem_toArray, List.getElem_cons_zero, List.getElem_cons_succ, List.setIfInBounds_toArray, List.set_cons_zero, List.set_cons_succ])
      refine wpAnyL_take (i := 3) (v := ?_) rfl (by kernel_rfl) (by kernel_rfl) (by kernel_rfl) (by kernel_rfl) (fun _ _ _ h => h) (Or.inl ⟨by kernel_rfl, ?_⟩) hHeld ?_
      rotate_left
      · intro w hSw; (try dsimp only at hSw); go_simp; try (with_reducible rfl)
      (try simp only [Act.put, List.getElem_toArray, List.getElem_cons_zero, List.getElem_cons_succ, List.setIfInBounds_toArray, List.set_cons_zero, List.set_cons_succ])
      refine wpAnyL_two (i := 4) (j := 9) (by kernel_rfl) rfl rfl (fun K hK => ?_) (fun K hK => ?_)
      ·
        (go_simp; go_at_call 26; refine (HWh.out _).mono ?_; rintro e w6 ⟨a3, c3, a4, c4, rfl, k3, k4, hb⟩; have B6 := Lib.hid (bt (Below.drew (Below.refl _ X)) hb); have K3 := Lib.hid (NumAt.of k3); have K4 := Lib.hid (NumAt.of (by rw [E1L.out]; exact k4 : RU _ _ _ (lim 1))); clear k3 k4 hb)
        refine hK.out _ _ (HS0.out _ B6.out) (fun hHeld => ?_)
        clear hK K
        (try simp only [Act.put, List.getElem_toArray, List.getElem_cons_zero, List.getElem_cons_succ, List.setIfInBounds_toArray, List.set_cons_zero, List.set_cons_succ])
        refine wpAnyL_two (i := 5) (j := 9) (by kernel_rfl) rfl rfl (fun K hK => ?_) (fun K hK => ?_)
        ·
          (go_simp; go_at_call 38; refine (HMu.out _ _ _ _ _ (K1X.out.same B6.out) (K2X.out.same B6.out) K3.out K4.out).mono ?_; rintro e w7 ⟨a5, c5, a6, c6, rfl, k5, k6, hb⟩; have B7 := Lib.hid (bt B6.out hb); have K5 := Lib.hid k5; have K6 := Lib.hid k6; clear k5 k6 hb)
          refine hK.out _ _ (HS0.out _ B7.out) (fun hHeld => ?_)
          clear hK K
          (try simp only [Act.put, List.getElem_toArray, List.getElem_cons_zero, List.getElem_cons_succ, List.setIfInBounds_toArray, List.set_cons_zero, List.set_cons_succ])
          refine wpAnyL_take (i := 6) (v := ?_) rfl (by kernel_rfl) (by kernel_rfl) (by kernel_rfl) (by kernel_rfl) (fun _ _ _ h => h) (Or.inl ⟨by kernel_rfl, ?_⟩) hHeld ?_
          rotate_left
          · intro w hSw; (try dsimp only at hSw); go_simp; try (with_reducible rfl)
          (try simp only [Act.put, List.getElem_toArray, List.getElem_cons_zero, List.getElem_cons_succ, List.setIfInBounds_toArray, List.set_cons_zero, List.set_cons_succ])
          refine wpAnyL_take (i := 7) (v := ?_) rfl (by kernel_rfl) (by kernel_rfl) (by kernel_rfl) (by kernel_rfl) (fun _ _ _ h => h) (Or.inl ⟨by kernel_rfl, ?_⟩) hHeld ?_
          rotate_left
          · intro w hSw; (try dsimp only at hSw); go_simp; try (with_reducible rfl)
          (try simp only [Act.put, List.getElem_toArray, List.getElem_cons_zero, List.getElem_cons_succ, List.setIfInBounds_toArray, List.set_cons_zero, List.set_cons_succ])
          refine wpAnyL_take (i := 8) (v := ?_) rfl (by kernel_rfl) (by kernel_rfl) (by kernel_rfl) (by kernel_rfl) (fun _ _ _ h => h) (Or.inl ⟨by kernel_rfl, ?_⟩) hHeld ?_
          rotate_left
          · intro w hSw; (try dsimp only at hSw); go_simp; try (with_reducible rfl)
          (try simp only [Act.put, List.getElem_toArray, List.getElem_cons_zero, List.getElem_cons_succ, List.setIfInBounds_toArray, List.set_cons_zero, List.set_cons_succ])
          refine wpAnyL_one (i := 9) (by kernel_rfl) rfl (fun K hK => ?_)
          go_simp
          refine hK.out _ _ (HS0.out _ (bt B7.out (below_new _ _))) (fun hHeld => ?_)
          clear hK K
          (try simp only [Act.put, List.getElem_toArray, List.getElem_cons_zero, List.getElem_cons_succ, List.setIfInBounds_toArray, List.set_cons_zero, List.set_cons_succ])
          refine wpAnyL_one (i := 10) (by kernel_rfl) rfl (fun K hK => ?_)
          go_simp
          refine hK.out _ _ (HS0.out _ (bt B7.out (by first | exact below_new _ _ | exact ((((below_new _ _).setCell (p := ⟨w7.heap.size, 0, none⟩) (Nat.le_refl _) _).setCell (p := ⟨w7.heap.size, 1, none⟩) (Nat.le_refl _) _).setCell (p := ⟨w7.heap.size, 2, none⟩) (Nat.le_refl _) _)))) (fun hHeld => ?_)
          clear hK K
          (try simp only [Act.put, List.getElem_toArray, List.getElem_cons_zero, List.getElem_cons_succ, List.setIfInBounds_toArray, List.set_cons_zero, List.set_cons_succ])
          refine wpAnyL_take (i := 11) (v := ?_) rfl (by kernel_rfl) (by kernel_rfl) (by kernel_rfl) (by kernel_rfl) (fun _ _ _ h => h) (Or.inl ⟨by kernel_rfl, ?_⟩) hHeld ?_
          rotate_left
          · intro w hSw; (try dsimp only at hSw); go_simp; try (with_reducible rfl)
          (try simp only [Act.put, List.getElem_toArray, List.getElem_cons_zero, List.getElem_cons_succ, List.setIfInBounds_toArray, List.set_cons_zero, List.set_cons_succ])
          refine wpAnyL_done (by kernel_rfl) ?_ _
          go_wp2_with fail
          go_meet
          first | exact MulR.late K5.out K6.out B7.out | exact MulR.laid K5.out K6.out B7.out
        ·
          go_simp
          refine hK.out _ _ (HS0.out _ (bt B6.out (below_new _ _))) (fun hHeld => ?_)
          clear hK K
          (try simp only [Act.put, List.getElem_toArray, List.getElem_cons_zero, List.getElem_cons_succ, List.setIfInBounds_toArray, List.set_cons_zero, List.set_cons_succ])
          refine wpAnyL_one (i := 5) (by kernel_rfl) rfl (fun K hK => ?_)
          (go_simp; go_at_call 38; refine (HMu.out _ _ _ _ _ ((K1X.out.same B6.out).same (below_new _ _)) ((K2X.out.same B6.out).same (below_new _ _)) (K3.out.same (below_new _ _)) (K4.out.same (below_new _ _))).mono ?_; rintro e w7 ⟨a5, c5, a6, c6, rfl, k5, k6, hb⟩; have T7 := Lib.hid hb; have B7 := Lib.hid (bt (bt B6.out (below_new w6 (.cells #[.bool false, .slice none 0 0, .slice none 0 0] 51))) hb); have K5 := Lib.hid k5; have K6 := Lib.hid k6; clear k5 k6 hb)
          refine hK.out _ _ (HS0.out _ B7.out) (fun hHeld => ?_)
          clear hK K
          (try simp only [Act.put, List.getElem_toArray, List.getElem_cons_zero, List.getElem_cons_succ, List.setIfInBounds_toArray, List.set_cons_zero, List.set_cons_succ])
          refine wpAnyL_take (i := 6) (v := ?_) rfl (by kernel_rfl) (by kernel_rfl) (by kernel_rfl) (by kernel_rfl) (fun _ _ _ h => h) (Or.inl ⟨by kernel_rfl, ?_⟩) hHeld ?_
          rotate_left
          · intro w hSw; (try dsimp only at hSw); go_simp; try (with_reducible rfl)
          (try simp only [Act.put, List.getElem_toArray, List.getElem_cons_zero, List.getElem_cons_succ, List.setIfInBounds_toArray, List.set_cons_zero, List.set_cons_succ])
          refine wpAnyL_take (i := 7) (v := ?_) rfl (by kernel_rfl) (by kernel_rfl) (by kernel_rfl) (by kernel_rfl) (fun _ _ _ h => h) (Or.inl ⟨by kernel_rfl, ?_⟩) hHeld ?_
          rotate_left
          · intro w hSw; (try dsimp only at hSw); go_simp; try (with_reducible rfl)
          (try simp only [Act.put, List.getElem_toArray, List.getElem_cons_zero, List.getElem_cons_succ, List.setIfInBounds_toArray, List.set_cons_zero, List.set_cons_succ])
          refine wpAnyL_take (i := 8) (v := ?_) rfl (by kernel_rfl) (by kernel_rfl) (by kernel_rfl) (by kernel_rfl) (fun _ _ _ h => h) (Or.inl ⟨by kernel_rfl, ?_⟩) hHeld ?_
          rotate_left
          · intro w hSw; (try dsimp only at hSw); go_simp; try (with_reducible rfl)
          (try simp only [Act.put, List.getElem_toArray, List.getElem_cons_zero, List.getElem_cons_succ, List.setIfInBounds_toArray, List.set_cons_zero, List.set_cons_succ])
          have gA := Lib.hid (keep_box T7.out (box_new w6 (.cells #[.bool false, .slice none 0 0, .slice none 0 0] 51)))
          obtain ⟨-, zA, fA⟩ := own_box (Below.refl _ w7) (size_of_box gA.out) gA.out
          have zA0 := zA 0; have zA1 := zA 1; have zA2 := zA 2; have fA0 := fA 0; have fA1 := fA 1; have fA2 := fA 2
          clear zA fA
          refine wpAnyL_one (i := 10) (by kernel_rfl) rfl (fun K hK => ?_)
          go_simp
          refine hK.out _ _ (HS0.out _ (((B7.out.setCell (p := ⟨w6.heap.size, 0, none⟩) B6.out.size _).setCell (p := ⟨w6.heap.size, 1, none⟩) B6.out.size _).setCell (p := ⟨w6.heap.size, 2, none⟩) B6.out.size _)) (fun hHeld => ?_)
          clear hK K
          (try simp only [Act.put, List.getElem_toArray, List.getElem_cons_zero, List.getElem_cons_succ, List.setIfInBounds_toArray, List.set_cons_zero, List.set_cons_succ])
          refine wpAnyL_take (i := 11) (v := ?_) rfl (by kernel_rfl) (by kernel_rfl) (by kernel_rfl) (by kernel_rfl) (fun _ _ _ h => h) (Or.inl ⟨by kernel_rfl, ?_⟩) hHeld ?_
          rotate_left
          · intro w hSw; (try dsimp only at hSw); go_simp; try (with_reducible rfl)
          (try simp only [Act.put, List.getElem_toArray, List.getElem_cons_zero, List.getElem_cons_succ, List.setIfInBounds_toArray, List.set_cons_zero, List.set_cons_succ])
          refine wpAnyL_done (by kernel_rfl) ?_ _
          go_wp2_with fail
          go_meet
          exact MulR.stored gA.out K5.out K6.out B7.out B6.out.size
      ·
        go_simp
        refine hK.out _ _ (HS0.out _ (below_new X (.cells #[.bool false, .slice none 0 0, .slice none 0 0] 51)).drew) (fun hHeld => ?_)
        clear hK K
        (try simp only [Act.put, List.getElem_toArray, List.getElem_cons_zero, List.getElem_cons_succ, List.setIfInBounds_toArray, List.set_cons_zero, List.set_cons_succ])
        refine wpAnyL_one (i := 4) (by kernel_rfl) rfl (fun K hK => ?_)
        (go_simp; go_at_call 26; refine (HWh.out _).mono ?_; rintro e w6 ⟨a3, c3, a4, c4, rfl, k3, k4, hb⟩; have T6 := Lib.hid hb; have B6 := Lib.hid (bt (below_new X (.cells #[.bool false, .slice none 0 0, .slice none 0 0] 51)).drew hb); have K3 := Lib.hid (NumAt.of k3); have K4 := Lib.hid (NumAt.of (by rw [E1L.out]; exact k4 : RU _ _ _ (lim 1))); clear k3 k4 hb)
        refine hK.out _ _ (HS0.out _ B6.out) (fun hHeld => ?_)
        clear hK K
        (try simp only [Act.put, List.getElem_toArray, List.getElem_cons_zero, List.getElem_cons_succ, List.setIfInBounds_toArray, List.set_cons_zero, List.set_cons_succ])
        refine wpAnyL_one (i := 5) (by kernel_rfl) rfl (fun K hK => ?_)
        (go_simp; go_at_call 38; refine (HMu.out _ _ _ _ _ (K1X.out.same B6.out) (K2X.out.same B6.out) K3.out K4.out).mono ?_; rintro e w7 ⟨a5, c5, a6, c6, rfl, k5, k6, hb⟩; have T7 := Lib.hid hb; have B7 := Lib.hid (bt B6.out hb); have K5 := Lib.hid k5; have K6 := Lib.hid k6; clear k5 k6 hb)
        refine hK.out _ _ (HS0.out _ B7.out) (fun hHeld => ?_)
        clear hK K
        (try simp only [Act.put, List.getElem_toArray, List.getElem_cons_zero, List.getElem_cons_succ, List.setIfInBounds_toArray, List.set_cons_zero, List.set_cons_succ])
        refine wpAnyL_take (i := 6) (v := ?_) rfl (by kernel_rfl) (by kernel_rfl) (by kernel_rfl) (by kernel_rfl) (fun _ _ _ h => h) (Or.inl ⟨by kernel_rfl, ?_⟩) hHeld ?_
        rotate_left
        · intro w hSw; (try dsimp only at hSw); go_simp; try (with_reducible rfl)
        (try simp only [Act.put, List.getElem_toArray, List.getElem_cons_zero, List.getElem_cons_succ, List.setIfInBounds_toArray, List.set_cons_zero, List.set_cons_succ])
        refine wpAnyL_take (i := 7) (v := ?_) rfl (by kernel_rfl) (by kernel_rfl) (by kernel_rfl) (by kernel_rfl) (fun _ _ _ h => h) (Or.inl ⟨by kernel_rfl, ?_⟩) hHeld ?_
        rotate_left
        · intro w hSw; (try dsimp only at hSw); go_simp; try (with_reducible rfl)
        (try simp only [Act.put, List.getElem_toArray, List.getElem_cons_zero, List.getElem_cons_succ, List.setIfInBounds_toArray, List.set_cons_zero, List.set_cons_succ])
        refine wpAnyL_take (i := 8) (v := ?_) rfl (by kernel_rfl) (by kernel_rfl) (by kernel_rfl) (by kernel_rfl) (fun _ _ _ h => h) (Or.inl ⟨by kernel_rfl, ?_⟩) hHeld ?_
        rotate_left
        · intro w hSw; (try dsimp only at hSw); go_simp; try (with_reducible rfl)
        (try simp only [Act.put, List.getElem_toArray, List.getElem_cons_zero, List.getElem_cons_succ, List.setIfInBounds_toArray, List.set_cons_zero, List.set_cons_succ])
        have gA := Lib.hid ((bt T6.out T7.out).block _ (by simp) |>.trans (box_new X (.cells #[.bool false, .slice none 0 0, .slice none 0 0] 51)))
        obtain ⟨-, zA, fA⟩ := own_box (Below.refl _ w7) (size_of_box gA.out) gA.out
        have zA0 := zA 0; have zA1 := zA 1; have zA2 := zA 2; have fA0 := fA 0; have fA1 := fA 1; have fA2 := fA 2
        clear zA fA
        refine wpAnyL_one (i := 10) (by kernel_rfl) rfl (fun K hK => ?_)
        go_simp
        refine hK.out _ _ (HS0.out _ (((B7.out.setCell (p := ⟨X.heap.size, 0, none⟩) (Nat.le_refl _) _).setCell (p := ⟨X.heap.size, 1, none⟩) (Nat.le_refl _) _).setCell (p := ⟨X.heap.size, 2, none⟩) (Nat.le_refl _) _)) (fun hHeld => ?_)
        clear hK K
        (try simp only [Act.put, List.getElem_toArray, List.getElem_cons_zero, List.getElem_cons_succ, List.setIfInBounds_toArray, List.set_cons_zero, List.set_cons_succ])
        refine wpAnyL_take (i := 11) (v := ?_) rfl (by kernel_rfl) (by kernel_rfl) (by kernel_rfl) (by kernel_rfl) (fun _ _ _ h => h) (Or.inl ⟨by kernel_rfl, ?_⟩) hHeld ?_
        rotate_left
        · intro w hSw; (try dsimp only at hSw); go_simp; try (with_reducible rfl)
        (try simp only [Act.put, List.getElem_toArray, List.getElem_cons_zero, List.getElem_cons_succ, List.setIfInBounds_toArray, List.set_cons_zero, List.set_cons_succ])
        refine wpAnyL_done (by kernel_rfl) ?_ _
        go_wp2_with fail
        go_meet
        exact MulR.stored gA.out K5.out K6.out B7.out (Nat.le_refl _)
    case rest =>
      obtain ⟨g, a7, c7, a8, c8, rfl, rfl, hg, k7, k8, hbc⟩ := hcut
      have hFw := HFl.out wc _ _ k7 k8
      obtain ⟨L5, hL5⟩ : ∃ L, (lim P).length = L := ⟨_, rfl⟩
      obtain ⟨L6, hL6⟩ : ∃ L, (lim Q).length = L := ⟨_, rfl⟩
      rw [hL5, hL6] at hg hFw
      obtain ⟨x0, x1, x2, xl⟩ := box3 hg (Below.refl _ wc)
      have HFw := Lib.hid hFw; have HBc := Lib.hid (bt BX.out hbc)
      have hle := HLe.out
      clear hFw hg k7 k8 hbc hL5 hL6
      go_wp2_with (first
        | (go_at_call 39; refine HFw.out.mono ?_; rintro e w8 ⟨rfl, hb⟩; have B8 := Lib.hid (bt HBc.out hb); clear hb)
        | (go_at_call 11; refine (wakes18 _).mono ?_; rintro e w9 ⟨rfl, hb⟩; have B9 := Lib.hid (bt B8.out hb); clear hb))
      go_ret
      exact ⟨rfl, B9.out⟩
  · have hp : passI value n most = 2 := by rw [passI, if_neg hok]
    have hz : passV value n most = 0 := by rw [passV, if_neg (by rw [hp]; decide)]
    have h1 := fun W => hP W most
    simp only [hp, hz] at h1
    have H1 := Lib.hid h1
    clear h1 hP hp hz hv hn
    have hways : value < 0 ∨ (¬ value < 0 ∧ 1000000000 < value) ∨ (¬ value < 0 ∧ ¬ 1000000000 < value ∧ n < 1) ∨ (¬ value < 0 ∧ ¬ 1000000000 < value ∧ ¬ n < 1 ∧ 1000000000000000 < n) ∨ (¬ value < 0 ∧ ¬ 1000000000 < value ∧ ¬ n < 1 ∧ ¬ 1000000000000000 < n ∧ most < 0) ∨ (¬ value < 0 ∧ ¬ 1000000000 < value ∧ ¬ n < 1 ∧ ¬ 1000000000000000 < n ∧ ¬ most < 0 ∧ n < most) := by omega
    clear hok
    rcases hways with g1 | ⟨g1, g2⟩ | ⟨g1, g2, g3⟩ | ⟨g1, g2, g3, g4⟩ | ⟨g1, g2, g3, g4, g5⟩ | ⟨g1, g2, g3, g4, g5, g6⟩
    all_goals
      go_enter Tryz.func8, Tryz.ntmps8
      go_wp2_with (first
        | (go_at_call 17; refine (H1.out _).mono ?_; rintro e w1 ⟨rfl, hb⟩; have B1 := Lib.hid hb; clear hb)
        | (go_at_call 11; refine (wakes18 _).mono ?_; rintro e w9 ⟨rfl, hb⟩; have B9 := Lib.hid (bt B1.out hb); clear hb))
      go_ret
      exact ⟨rfl, B9.out⟩
end Go.Proofs.YtakcgoehnkognaaGreat

namespace Go.Proofs.YtakcgoehnkognaaGreat
open Go Go.RowKit Go.ChangeShapes Go.WideShapes Go.ChangeAt

set_option maxRecDepth 100000 in
theorem gregoryPass_lifted (os : Os) (started : os.Started) (H : Type) (enc : TypeId × Value → H) :
    ReturnsInHanded {} Tryz.checked os 8 .any (Rows.gregoryPassSpec.pre6 enc Tryz.prog Tryz.f8 Rows.gregoryPassRow.domain false) (Rows.gregoryPassSpec.post enc Tryz.prog Tryz.f8 false true false false) := by
  refine returnsInHanded_of_change_sized (C := Tryz.checked) Tryz.own started (by kernel_rfl) Tryz.func8
    (ChangeSpec.witness6 (enc := enc) (C := Tryz.checked) false ⟨#[], #[.int .i64 0, .int .i64 0, .int .i64 0], []⟩ 8 (by kernel_rfl) (by kernel_rfl) (by kernel_rfl) (by kernel_rfl)) ?_
  intro W base args ds gs before hval0 hW hcnd hsz0 _
  have hval : ∀ (j : Nat) t v, Tryz.f8.params[j]? = some t → args[j]? = some v → Value.okWide Tryz.prog W .any base t v := hval0
  have hsz : (DataW.weightsEach Tryz.prog (Tryz.f8.params.toList ++ Rows.gregoryPassSpec.plain.varTypes Tryz.prog) (ds ++ gs)).all (· ≤ reachBytes) = true := hsz0
  have hW' := hW
  obtain ⟨p, q, hA0, hV, rfl, hfz, hnd⟩ := hW
  have hA : DataW.TrodAll enc Tryz.prog W 0 (fun _ => true) true Tryz.f8.params.toList args.toList ds p := hA0
  rw [Tryz.params8] at hA hval hsz
  obtain ⟨v0, vs0, d0, ds0, p0, q0, hargs, rfl, rfl, h0, r0⟩ := trodAll_cons hA
  obtain ⟨v1, vs1, d1, ds1, p1, q1, rfl, rfl, rfl, h1, r1⟩ := trodAll_cons r0
  obtain ⟨v2, vs2, d2, ds2, p2, q2, rfl, rfl, rfl, h2, r2⟩ := trodAll_cons r1
  obtain ⟨rfl, rfl, rfl⟩ := trodAll_nil r2
  obtain rfl : args = #[v0, v1, v2] := by cases args; simp_all
  obtain ⟨rfl, rfl⟩ := trodVars_none hV
  have k0 := h0
  have k1 := h1
  have k2 := h2
  have lt0 : ∀ x ∈ p0, x.block < W.heap.size := by obtain ⟨m, hm⟩ := k0; exact DataW.trod_lt m _ _ _ hm
  have lt1 : ∀ x ∈ p1, x.block < W.heap.size := by obtain ⟨m, hm⟩ := k1; exact DataW.trod_lt m _ _ _ hm
  have lt2 : ∀ x ∈ p2, x.block < W.heap.size := by obtain ⟨m, hm⟩ := k2; exact DataW.trod_lt m _ _ _ hm
  obtain ⟨x0, rfl, e0, e0', wf0⟩ := open_int Tryz.underlying3 (hval 0 _ v0 rfl rfl) h0
  obtain ⟨x1, rfl, e1, e1', wf1⟩ := open_int Tryz.underlying3 (hval 1 _ v1 rfl rfl) h1
  obtain ⟨x2, rfl, e2, e2', wf2⟩ := open_int Tryz.underlying3 (hval 2 _ v2 rfl rfl) h2
  clear hA0 hval0
  refine (law_gpass x0 x1 x2 W wf0 wf1 wf2).mono fun e W' ⟨he, bel⟩ => ?_
  subst he
  exact ⟨_, rfl, _, _, _, [], _, [], hW', trodAll_mk1 (shut_bool Tryz.underlying4 _), (trodAll_cons_mk (Below.trod Tryz.laidOut (by kernel_rfl) (of_decide_eq_true (by kernel_rfl)) k0 bel lt0) (trodAll_cons_mk (Below.trod Tryz.laidOut (by kernel_rfl) (of_decide_eq_true (by kernel_rfl)) k1 bel lt1) (trodAll_cons_mk (Below.trod Tryz.laidOut (by kernel_rfl) (of_decide_eq_true (by kernel_rfl)) k2 bel lt2) trodAll_mk0))), rfl, bel.frame _, fun h => by cases h⟩

theorem gregoryPass_named : Tryz.prog.funcNamed Rows.gregoryPassRow.func = some 8 := by kernel_rfl
theorem gregoryPass_facts : joinedFacts Tryz.prog 8 Tryz.f8 Rows.gregoryPassSpec Rows.gregoryPassRow = true := by kernel_rfl
theorem gregoryPass_inst : Tryz.f8.isInstance Tryz.prog Rows.gregoryPassRow.origin Rows.gregoryPassRow.targs := of_decide_eq_true (by kernel_rfl)
theorem gregoryPass_wrap : Tryz.f8.isWrapper Tryz.prog Rows.gregoryPassRow.wrapper Rows.gregoryPassRow.mainSum := by
  unfold Func.isWrapper
  rw [if_neg (of_decide_eq_false (by kernel_rfl))]
  exact ⟨rfl, rfl⟩
theorem gregoryPass_holds : Rows.GregoryPassSaid :=
  OpenClaim.holds_of_wide 8 Tryz.f8 rfl rfl rfl rfl rfl rfl rfl ⟨rfl, rfl, rfl, rfl, rfl⟩ rfl rfl rfl rfl rfl gregoryPass_named Tryz.func8 gregoryPass_facts
    gregoryPass_inst gregoryPass_wrap
    (fun os started H enc _ => gregoryPass_lifted os started H enc)
#print axioms gregoryPass_holds
end Go.Proofs.YtakcgoehnkognaaGreat
