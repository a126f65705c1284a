/- Texts of one claim, put together: RatAr, BilP, RtB, RunP, SumG. -/
import Derived.Test.YtakcgoehnkognaaGreatCGRat2
import Derived.Test.YtakcgoehnkognaaGreatCGRat
import Derived.Test.YtakcgoehnkognaaGreatCGR18
import Derived.Test.YtakcgoehnkognaaGreatCGSam
import Derived.Test.YtakcgoehnkognaaGreatCGWakG
import Derived.Test.YtakcgoehnkognaaGreatCGRen
import Derived.Test.YtakcgoehnkognaaGreatCGGreM

namespace Go.Proofs.YtakcgoehnkognaaGreat
open Go Go.RowKit Go.Shelf Limb

set_option maxHeartbeats 1000000 in
theorem r3Add (va vb : Value) (m n : Nat) (w : World) (ha : NumAt w va m) (hb : NumAt w vb n) (hla : (lim m).length ≤ 96) (hlb : (lim n).length ≤ 96) (hf : (lim (m + n)).length ≤ 96) :
    Calls Tryz.prog 70 #[va, vb] w fun e w' => ∃ a c, e = .returned (.tuple #[.slice a (lim (m + n)).length c, .int .i64 0]) ∧ NumAt w' (.slice a (lim (m + n)).length c) (m + n) ∧ Below w.heap.size w w' := by
  have hB := r3Bothn va vb m n w ha hb hla hlb
  have hP := r3PlusF Any Any va vb _ _ (m + n) w ha.ru hb.ru (by omega) (by omega) (by rw [val_lim, val_lim]; omega)
  unfold GivesF at hP
  obtain ⟨a1, c1, rfl⟩ := ha.shape
  obtain ⟨a2, c2, rfl⟩ := hb.shape
  obtain ⟨L, hL⟩ : ∃ L, (lim (m + n)).length = L := ⟨_, rfl⟩
  rw [hL] at hP hf ⊢
  have hf2 : ¬ 96 < L := by omega
  obtain ⟨L1, hL1⟩ : ∃ L, (lim m).length = L := ⟨_, rfl⟩
  obtain ⟨L2, hL2⟩ : ∃ L, (lim n).length = L := ⟨_, rfl⟩
  rw [hL1, hL2] at hB hP
  rw [hL1, hL2]
  have HB := Lib.hid hB; have HP := Lib.hid hP; have HL := Lib.hid hL
  clear hB hP hL hL1 hL2 ha hb hf hla hlb
  go_enter Tryz.func70, Tryz.ntmps70
  go_wp2_with (first
    | (go_at_call 120; refine HB.out.mono ?_; rintro e w1 ⟨rfl, rfl⟩)
    | (go_at_call 121; refine HP.out.mono ?_; rintro e w2 ⟨a3, c3, rfl, k1, hb⟩; have K1 := Lib.hid k1; have B2 := Lib.hid hb; clear k1 hb))
  go_ret2
  exact ⟨_, _, rfl, by rw [← HL.out]; exact NumAt.of (by rw [HL.out]; exact K1.out), B2.out⟩
set_option maxHeartbeats 4000000 in
set_option maxRecDepth 100000 in
theorem r4Add (v1 v2 v3 v4 : Value) (m1 n1 m2 n2 : Nat) (w : World) (h1 : Pos w v1 v2 m1 n1) (h2 : Pos w v3 v4 m2 n2) (hf : AddFit m1 n1 m2 n2) :
    Calls Tryz.prog 27 #[.agg #[.bool false, v1, v2], .agg #[.bool false, v3, v4]] w (GivesPQ (sumN m1 n1 m2 n2) (sumD m1 n1 m2 n2) w) := by
  have hBt := fun W => r4Both Any Any Any Any false false v1 v2 v3 v4 (lim m1) (lim n1) (lim m2) (lim n2) W
  obtain ⟨a1, c1, rfl⟩ := h1.num.shape
  obtain ⟨a2, c2, rfl⟩ := h1.den.shape
  obtain ⟨a3, c3, rfl⟩ := h2.num.shape
  obtain ⟨a4, c4, rfl⟩ := h2.den.shape
  obtain ⟨W0, hW0⟩ : ∃ W0, W0 = ((w.alloc (.cells #[.bool false, .slice a1 (lim m1).length c1, .slice a2 (lim n1).length c2] 51)).alloc (.cells #[.bool false, .slice a3 (lim m2).length c3, .slice a4 (lim n2).length c4] 51)).alloc (.cells #[.bool false, .slice none 0 0, .slice none 0 0] 51) := ⟨_, rfl⟩
  have hb0 : Below w.heap.size w W0 := by rw [hW0]; exact ((below_new w _).alloc (by simp) _).alloc (by simp; omega) _
  have hz0 : W0.heap.size = w.heap.size + 3 := by rw [hW0]; simp
  have hgA : W0.heap[w.heap.size]? = some (.cells #[.bool false, .slice a1 (lim m1).length c1, .slice a2 (lim n1).length c2] 51 (0, 0)) := by rw [hW0]; exact box_old _ (box_old _ (box_new w _))
  have hgB : W0.heap[w.heap.size + 1]? = some (.cells #[.bool false, .slice a3 (lim m2).length c3, .slice a4 (lim n2).length c4] 51 (0, 0)) := by
    rw [hW0]
    refine box_old _ ?_
    simpa using box_new (w.alloc (.cells #[.bool false, .slice a1 (lim m1).length c1, .slice a2 (lim n1).length c2] 51)) (.cells #[.bool false, .slice a3 (lim m2).length c3, .slice a4 (lim n2).length c4] 51)
  have hgC : W0.heap[w.heap.size + 2]? = some (.cells #[.bool false, .slice none 0 0, .slice none 0 0] 51 (0, 0)) := by
    rw [hW0]
    simpa using box_new ((w.alloc (.cells #[.bool false, .slice a1 (lim m1).length c1, .slice a2 (lim n1).length c2] 51)).alloc (.cells #[.bool false, .slice a3 (lim m2).length c3, .slice a4 (lim n2).length c4] 51)) (.cells #[.bool false, .slice none 0 0, .slice none 0 0] 51)
  have hB1 := hBt W0 (h1.num.same hb0).ru (h1.den.same hb0).ru (h2.num.same hb0).ru (h2.den.same hb0).ru h1.ok h2.ok
  have hFit : ∀ (N : Nat) (W W' : World) (e : Ending), (lim N).length ≤ 96 → FitGives N W e W' → ∃ a c, e = .returned (.tuple #[.slice a (lim N).length c, .int .i64 0]) ∧ NumAt W' (.slice a (lim N).length c) N ∧ Below W.heap.size W W' := fun N W W' e hl hh => by
    obtain ⟨k1, -, k3⟩ := hh
    obtain ⟨a, c, k4, k5⟩ := k1 hl
    exact ⟨a, c, k4, k5, k3⟩
  have hM1 := fun W (hW : Below W0.heap.size W0 W) => (r3Mul _ _ m1 n2 W ((h1.num.same hb0).same hW) ((h2.den.same hb0).same hW) h1.l1 h2.l2).mono fun e w' hh => hFit _ _ _ _ hf.f1 hh
  have hM2 := fun W (hW : Below W0.heap.size W0 W) => (r3Mul _ _ m2 n1 W ((h2.num.same hb0).same hW) ((h1.den.same hb0).same hW) h2.l1 h1.l2).mono fun e w' hh => hFit _ _ _ _ hf.f2 hh
  have hM3 := fun W (hW : Below W0.heap.size W0 W) => (r3Mul _ _ n1 n2 W ((h1.den.same hb0).same hW) ((h2.den.same hb0).same hW) h1.l2 h2.l2).mono fun e w' hh => hFit _ _ _ _ hf.f3 hh
  have hAd := fun (W : World) u v (k1 : NumAt W u (m1 * n2)) (k2 : NumAt W v (m2 * n1)) => r3Add u v _ _ W k1 k2 hf.f1 hf.f2 hf.f4
  have hLo := fun (W : World) u v (k1 : NumAt W u (m1 * n2 + m2 * n1)) (k2 : NumAt W v (n1 * n2)) => r4Lowest false u v _ _ W k1 k2 hf.f4 hf.f3 (Nat.mul_pos h1.pos h2.pos)
  simp only [Bool.false_and] at hLo
  unfold GivesPQ sumN sumD
  obtain ⟨P, hP⟩ : ∃ P, (m1 * n2 + m2 * n1) / Nat.gcd (m1 * n2 + m2 * n1) (n1 * n2) = P := ⟨_, rfl⟩
  obtain ⟨Q, hQ⟩ : ∃ Q, (n1 * n2) / Nat.gcd (m1 * n2 + m2 * n1) (n1 * n2) = Q := ⟨_, rfl⟩
  simp only [hP, hQ] at hLo ⊢
  obtain ⟨sm, hsm⟩ : ∃ s, m1 * n2 + m2 * n1 = s := ⟨_, rfl⟩
  simp only [hsm] at hAd hLo
  obtain ⟨p, hp⟩ : ∃ s, m1 * n2 = s := ⟨_, rfl⟩
  obtain ⟨q, hq⟩ : ∃ s, m2 * n1 = s := ⟨_, rfl⟩
  obtain ⟨d, hd⟩ : ∃ s, n1 * n2 = s := ⟨_, rfl⟩
  simp only [hp, hq] at hM1 hM2 hAd
  simp only [hd] at hM3 hLo
  have hcell : ∀ W, Below W0.heap.size W0 W → (∀ i, W.cell? ⟨w.heap.size, i, none⟩ = (#[.bool false, .slice a1 (lim m1).length c1, .slice a2 (lim n1).length c2] : Array Value)[i]?) ∧ (∀ i, W.cell? ⟨w.heap.size + 1, i, none⟩ = (#[.bool false, .slice a3 (lim m2).length c3, .slice a4 (lim n2).length c4] : Array Value)[i]?) ∧ (∀ i, W.cell? ⟨w.heap.size + 2, i, none⟩ = (#[.bool false, .slice none 0 0, .slice none 0 0] : Array Value)[i]?) ∧ (∀ i, W.frozen? ⟨w.heap.size + 2, i, none⟩ = false) ∧ w.heap.size + 2 < W.heap.size := fun W hW =>
    ⟨(own_box hW (by omega) hgA).2.1, (own_box hW (by omega) hgB).2.1, (own_box hW (by omega) hgC).2.1, (own_box hW (by omega) hgC).2.2, by have := hW.size; omega⟩
  have hfin : ∀ (w3 : World) v n, Below W0.heap.size W0 w3 → NumAt w3 v n → ∀ w', Same (fun b => b ≠ w.heap.size + 2) w3 w' → NumAt w' v n := fun w3 v n hW k w' hs => by
    obtain ⟨g1, -, -⟩ := own_box hW (by omega) hgC
    exact k.kept g1 (bss_ne _ _ _ (by simp) (by simp)) hs
  generalize (lim m1).length = L1 at *
  generalize (lim n1).length = L2 at *
  generalize (lim m2).length = L3 at *
  generalize (lim n2).length = L4 at *
  have HB1 := Lib.hid hB1; have HM1 := Lib.hid hM1; have HM2 := Lib.hid hM2; have HM3 := Lib.hid hM3; have HAd := Lib.hid hAd; have HLo := Lib.hid hLo; have HC := Lib.hid hcell; have HFn := Lib.hid hfin; have Hb0 := Lib.hid hb0; have Hz0 := Lib.hid hz0
  clear hB1 hM1 hM2 hM3 hAd hLo hcell hfin hb0 hz0 hFit hBt hgA hgB hgC h1 h2 hf hP hQ hsm hp hq hd
  have st0 := Lib.hid True.intro
  subst hW0
  go_enter Tryz.func27, Tryz.ntmps27
  go_wp2_with (first
    | (have := st5; go_at_call 71; clear st5; refine (HLo.out _ _ _ HS5.out HD5.out).mono ?_; rintro e w6 ⟨a10, c10, a11, c11, rfl, k1, k2, hb⟩; have B6 := Lib.hid (bt B5.out hb); obtain ⟨-, -, y1, z1, y3⟩ := HC.out w6 B6.out; have y10 := y1 0; have y11 := y1 1; have y12 := y1 2; have HP5 := Lib.hid k1; have HQ5 := Lib.hid k2; clear k1 k2 hb this)
    | (have := st4; go_at_call 70; clear st4; refine (HAd.out _ _ _ HX4.out HY4.out).mono ?_; rintro e w5 ⟨a8, c8, rfl, k1, hb⟩; have B5 := Lib.hid (bt B4.out hb); clear x0 x3 hz; obtain ⟨x, -, -, -, hz⟩ := HC.out w5 B5.out; have x0 := x 0; have HS5 := Lib.hid k1; have HD5 := Lib.hid (HD4.out.same hb); clear k1 hb this x; have st5 := Lib.hid True.intro)
    | (have := st3; go_at_call 69; clear st3; refine (HM3.out _ B3.out).mono ?_; rintro e w4 ⟨a7, c7, rfl, k1, hb⟩; have B4 := Lib.hid (bt B3.out hb); clear x2 x4 hz; obtain ⟨x, y, -, -, hz⟩ := HC.out w4 B4.out; have x0 := x 0; have x3 := y 0; have HD4 := Lib.hid k1; have HX4 := Lib.hid (HX3.out.same hb); have HY4 := Lib.hid (HY3.out.same hb); clear k1 hb this x y; have st4 := Lib.hid True.intro)
    | (have := st2; go_at_call 69; clear st2; refine (HM2.out _ B2.out).mono ?_; rintro e w3 ⟨a6, c6, rfl, k1, hb⟩; have B3 := Lib.hid (bt B2.out hb); clear x1 x2 hz; obtain ⟨x, y, -, -, hz⟩ := HC.out w3 B3.out; have x2 := x 2; have x4 := y 2; have HY3 := Lib.hid k1; have HX3 := Lib.hid (HX2.out.same hb); clear k1 hb this x y; have st3 := Lib.hid True.intro)
    | (have := st1; go_at_call 69; clear st1; refine (HM1.out _ B1.out).mono ?_; rintro e w2 ⟨a5, c5, rfl, k1, hb⟩; have B2 := Lib.hid (bt B1.out hb); clear x1 x2 hz; obtain ⟨x, y, -, -, hz⟩ := HC.out w2 B2.out; have x1 := y 1; have x2 := x 2; have HX2 := Lib.hid k1; clear k1 hb this x y; have st2 := Lib.hid True.intro)
    | (have := st0; go_at_call 68; clear st0; refine HB1.out.mono ?_; rintro e w1 ⟨rfl, hb⟩; have B1 := Lib.hid hb; obtain ⟨x, y, -, -, hz⟩ := HC.out w1 B1.out; have x1 := x 1; have x2 := y 2; clear hb this x y; have st1 := Lib.hid True.intro))
  refine bodyPost_ret (v := .tuple #[.agg #[.bool false, .slice a10 (lim P).length c10, .slice a11 (lim Q).length c11], .int .i64 0]) (by simp [results, Tryz.results27, go_sem, y1]) rfl ⟨a10, c10, a11, c11, rfl, (HFn.out _ _ _ B6.out HP5.out _ ?_).ru, (HFn.out _ _ _ B6.out HQ5.out _ ?_).ru, ?_⟩
  · exact (((Same.refl _ _).setCell (by simp) _).setCell (by simp) _).setCell (by simp) _
  · exact (((Same.refl _ _).setCell (by simp) _).setCell (by simp) _).setCell (by simp) _
  · exact ((((Hb0.out.trans (B6.out.mono (by rw [Hz0.out]; omega))).setCell (p := ⟨w.heap.size + 2, 0, none⟩) (by simp) _).setCell (p := ⟨w.heap.size + 2, 1, none⟩) (by simp) _).setCell (p := ⟨w.heap.size + 2, 2, none⟩) (by simp) _)
end Go.Proofs.YtakcgoehnkognaaGreat

namespace Go.Proofs.YtakcgoehnkognaaGreat
open Go Go.RowKit Go.Shelf Limb

theorem low_eq {X Y A B : Nat} (hY : 0 < Y) (hB : 0 < B) (h : X * B = A * Y) : X / Nat.gcd X Y = A / Nat.gcd A B ∧ Y / Nat.gcd X Y = B / Nat.gcd A B := by
  have e1 : Nat.gcd X Y * B = Nat.gcd A B * Y := by
    rw [← Nat.gcd_mul_right, ← Nat.gcd_mul_right, h, Nat.mul_comm Y B]
  have hg : 0 < Nat.gcd X Y := Nat.gcd_pos_of_pos_right _ hY
  have hh : 0 < Nat.gcd A B := Nat.gcd_pos_of_pos_right _ hB
  obtain ⟨x, hx⟩ := Nat.gcd_dvd_left X Y
  obtain ⟨y, hy⟩ := Nat.gcd_dvd_right X Y
  obtain ⟨a, ha⟩ := Nat.gcd_dvd_left A B
  obtain ⟨b, hb⟩ := Nat.gcd_dvd_right A B
  generalize Nat.gcd X Y = g at *
  generalize Nat.gcd A B = k at *
  subst hx hy ha hb
  rw [Nat.mul_div_cancel_left _ hg, Nat.mul_div_cancel_left _ hg, Nat.mul_div_cancel_left _ hh, Nat.mul_div_cancel_left _ hh]
  have hgk : 0 < g * k := Nat.mul_pos hg hh
  have e2 : (g * k) * b = (g * k) * y := by
    have : g * (k * b) = k * (g * y) := e1
    rw [Nat.mul_assoc, this]
    rw [Nat.mul_left_comm, Nat.mul_assoc]
  have eb : b = y := Nat.eq_of_mul_eq_mul_left hgk e2
  subst eb
  have hb0 : 0 < b := Nat.pos_of_ne_zero fun e => by rw [e, Nat.mul_zero] at hY; omega
  have e3 : (g * k * b) * x = (g * k * b) * a := by
    have h1 : g * x * (k * b) = k * a * (g * b) := h
    have l1 : g * k * b * x = g * x * (k * b) := by
      rw [Nat.mul_assoc g x, Nat.mul_left_comm x k b, ← Nat.mul_assoc g k, Nat.mul_comm x b, ← Nat.mul_assoc]
    have l2 : g * k * b * a = k * a * (g * b) := by
      rw [Nat.mul_assoc k a, Nat.mul_left_comm a g b, Nat.mul_comm a b, ← Nat.mul_assoc k g, Nat.mul_comm k g, ← Nat.mul_assoc]
    rw [l1, l2, h1]
  exact ⟨Nat.eq_of_mul_eq_mul_left (Nat.mul_pos hgk hb0) e3, rfl⟩
def bn (a : Nat) : Nat := a / Nat.gcd a 1000000000
def bd (a : Nat) : Nat := 1000000000 / Nat.gcd a 1000000000
theorem bill_of (a : Nat) : bill (a : Int) = ⟨false, lim (bn a), lim (bd a)⟩ := bill_nat a
theorem gcd_bill (a : Nat) : 0 < Nat.gcd a 1000000000 := Nat.gcd_pos_of_pos_right _ (by omega)
theorem bn_mul (a : Nat) : bn a * Nat.gcd a 1000000000 = a := Nat.div_mul_cancel (Nat.gcd_dvd_left _ _)
theorem bd_mul (a : Nat) : bd a * Nat.gcd a 1000000000 = 1000000000 := Nat.div_mul_cancel (Nat.gcd_dvd_right _ _)
theorem bd_pos (a : Nat) : 0 < bd a := Nat.div_pos (Nat.le_of_dvd (by omega) (Nat.gcd_dvd_right a _)) (gcd_bill a)
theorem bn_le (a : Nat) : bn a ≤ a := Nat.div_le_self _ _
theorem bd_le (a : Nat) : bd a ≤ 1000000000 := Nat.div_le_self _ _
theorem bill_sum (a b : Nat) : sumN (bn a) (bd a) (bn b) (bd b) = bn (a + b) ∧ sumD (bn a) (bd a) (bn b) (bd b) = bd (a + b) := by
  refine low_eq (X := bn a * bd b + bn b * bd a) (Y := bd a * bd b) (A := a + b) (B := 1000000000) (Nat.mul_pos (bd_pos a) (bd_pos b)) (by omega) ?_
  have e1 := bn_mul a
  have e2 := bn_mul b
  have e3 := bd_mul a
  have e4 := bd_mul b
  generalize bn a = m1 at *
  generalize bd a = n1 at *
  generalize bn b = m2 at *
  generalize bd b = n2 at *
  generalize Nat.gcd a 1000000000 = g at *
  generalize Nat.gcd b 1000000000 = k at *
  rw [Nat.add_mul, Nat.add_mul, ← e1, ← e2]
  congr 1
  · rw [← e3, Nat.mul_assoc m1 n2, Nat.mul_comm n2, Nat.mul_assoc n1 g n2, Nat.mul_assoc m1 g, Nat.mul_left_comm n1 g n2]
  · rw [← e4, Nat.mul_assoc m2 n1, Nat.mul_assoc m2 k, Nat.mul_left_comm k n1 n2, Nat.mul_comm k n2]
theorem bill_cmp (a b : Nat) : cmpN (bn a * bd b) (bn b * bd a) = cmpN a b := by
  have e1 := bn_mul a
  have e2 := bn_mul b
  have e3 := bd_mul a
  have e4 := bd_mul b
  have g1 := gcd_bill a
  have g2 := gcd_bill b
  have key : bn a * bd b * (Nat.gcd a 1000000000 * Nat.gcd b 1000000000) = a * 1000000000 := by
    rw [Nat.mul_mul_mul_comm, e1, e4]
  have key2 : bn b * bd a * (Nat.gcd a 1000000000 * Nat.gcd b 1000000000) = b * 1000000000 := by
    rw [Nat.mul_comm (Nat.gcd a 1000000000), Nat.mul_mul_mul_comm, e2, e3]
  have hp : 0 < Nat.gcd a 1000000000 * Nat.gcd b 1000000000 := Nat.mul_pos g1 g2
  generalize Nat.gcd a 1000000000 * Nat.gcd b 1000000000 = G at *
  generalize bn a * bd b = p at *
  generalize bn b * bd a = q at *
  have hl : ∀ {x y c d : Nat}, x * G = c * 1000000000 → y * G = d * 1000000000 → (x < y ↔ c < d) := fun {x y c d} h1 h2 => by
    constructor
    · intro h
      have := Nat.mul_lt_mul_of_pos_right h hp
      omega
    · intro h
      rcases Nat.lt_or_ge x y with h3 | h3
      · exact h3
      · have := Nat.mul_le_mul_right G h3; omega
  unfold cmpN
  simp only [hl key key2, hl key2 key]
theorem bill_pos {S : Nat → Prop} {w : World} {c : Bool} {d e : Value} {a : Nat} (ha : a ≤ 4000000000000000000) (h : VRt S w (.agg #[.bool c, d, e]) (bill (a : Int))) : c = false ∧ Pos w d e (bn a) (bd a) := by
  rw [bill_of] at h
  obtain ⟨u1, u2, hh, h1, h2⟩ := h
  simp only [Value.agg.injEq, Array.mk.injEq, List.cons.injEq, and_true, Value.bool.injEq] at hh
  obtain ⟨rfl, rfl, rfl⟩ := hh
  have l1 := lim_small_len (n := bn a) (by have := bn_le a; omega)
  have l2 := lim_small_len (n := bd a) (by have := bd_le a; omega)
  refine ⟨rfl, NumAt.of h1, NumAt.of h2, ?_, by omega, by omega, bd_pos a⟩
  rw [ratChk_ok (by omega) (by omega) (by have := bd_pos a; omega) (g := 1) ?_ (by simp)]
  · rfl
  · unfold bn bd
    rw [Nat.gcd_div (Nat.gcd_dvd_left _ _) (Nat.gcd_dvd_right _ _), Nat.div_self (gcd_bill a)]
theorem bill_fit {a b : Nat} (ha : a ≤ 4000000000000000000) (hb : b ≤ 4000000000000000000) : AddFit (bn a) (bd a) (bn b) (bd b) := by
  have a1 := bn_le a; have a2 := bd_le a; have b1 := bn_le b; have b2 := bd_le b
  have m1 : bn a * bd b ≤ 4000000000000000000 * 1000000000 := Nat.mul_le_mul (by omega) (by omega)
  have m2 : bn b * bd a ≤ 4000000000000000000 * 1000000000 := Nat.mul_le_mul (by omega) (by omega)
  have m3 : bd a * bd b ≤ 1000000000 * 1000000000 := Nat.mul_le_mul (by omega) (by omega)
  have h : ∀ n : Nat, n < 2 ^ 128 → (lim n).length ≤ 96 := fun n hn => Nat.le_trans (lim_length_le (k := 4) (by simp only [pw_succ, pw_zero]; omega)) (by omega)
  exact ⟨h _ (by omega), h _ (by omega), h _ (by omega), h _ (by omega)⟩
theorem r4AddB (S T : Nat → Prop) (u v : Value) (a b : Nat) (w : World) (hu : VRt S w u (bill a)) (hv : VRt T w v (bill b)) (ha : a ≤ 2000000000000000000) (hb : b ≤ 2000000000000000000) :
    Calls Tryz.prog 27 #[u, v] w (GivesPQ (bn (a + b)) (bd (a + b)) w) := by
  have hu0 := hu
  have hv0 := hv
  obtain ⟨u1, u2, rfl, -, -⟩ := hu0
  obtain ⟨v1, v2, rfl, -, -⟩ := hv0
  obtain ⟨e1, p1⟩ := bill_pos (by omega) hu
  obtain ⟨e2, p2⟩ := bill_pos (by omega) hv
  have h := r4Add _ _ _ _ _ _ _ _ w p1 p2 (bill_fit (by omega) (by omega))
  rw [(bill_sum a b).1, (bill_sum a b).2] at h
  rw [e1, e2]
  exact h
theorem r4CmpB (S T : Nat → Prop) (u v : Value) (a b : Nat) (w : World) (hu : VRt S w u (bill a)) (hv : VRt T w v (bill b)) (ha : a ≤ 4000000000000000000) (hb : b ≤ 4000000000000000000) :
    Calls Tryz.prog 29 #[u, v] w fun e w' => e = .returned (.tuple #[.int .i64 (cmpN a b), .int .i64 0]) ∧ Below w.heap.size w w' := by
  have hu0 := hu
  have hv0 := hv
  obtain ⟨u1, u2, rfl, -, -⟩ := hu0
  obtain ⟨v1, v2, rfl, -, -⟩ := hv0
  obtain ⟨e1, p1⟩ := bill_pos ha hu
  obtain ⟨e2, p2⟩ := bill_pos hb hv
  have hf := bill_fit ha hb
  have h := r4Cmp _ _ _ _ _ _ _ _ w p1.num p1.den p2.num p2.den p1.l1 p1.l2 p2.l1 p2.l2 p1.ok p2.ok (by have := p1.pos; omega) (by have := p2.pos; omega) hf.f1 hf.f2
  rw [bill_cmp a b] at h
  rw [e1, e2]
  exact h
theorem bill_whole (q : Nat) : bill ((q : Int) * 1000000000) = whole (q : Int) := by
  rw [show ((q : Int) * 1000000000) = ((q * 1000000000 : Nat) : Int) by omega, bill_of, whole_nat]
  have e : Nat.gcd (q * 1000000000) 1000000000 = 1000000000 := Nat.gcd_eq_right (Nat.dvd_mul_left _ _)
  rw [bn, bd, e, Nat.mul_div_cancel _ (by omega), Nat.div_self (by omega), lim1]
end Go.Proofs.YtakcgoehnkognaaGreat

namespace Go.Proofs.YtakcgoehnkognaaGreat
open Go Go.RowKit Go.Shelf Limb

theorem VRt.from {S : Nat → Prop} {w : World} {c d e : Value} {x : Rt} (h : dRt S w [c, d, e] x) : VRt S w (.agg #[c, d, e]) x := by
  obtain ⟨vn, vd, h1, h2, h3⟩ := h
  simp only [List.cons.injEq, and_true] at h1
  obtain ⟨rfl, rfl, rfl⟩ := h1
  exact ⟨_, _, rfl, h2, h3⟩
theorem VRt.away {S : Nat → Prop} {w : World} {b : Bool} {u v : Value} {x : Rt} {g : Nat} {cs : Array Value} {e : TypeId} (h : VRt S w (.agg #[.bool b, u, v]) x) (hg : w.heap[g]? = some (.cells cs e (0, 0))) (hne : ∀ (i : Nat) (y : Int), cs[i]? ≠ some (Value.int .u32 y)) : VRt (fun b => b ≠ g) w (.agg #[.bool b, u, v]) x := by
  obtain ⟨u1, u2, hh, h1, h2⟩ := h
  exact ⟨u1, u2, hh, h1.avoid hg hne, h2.avoid hg hne⟩
theorem VRt.any {S : Nat → Prop} {w : World} {v : Value} {x : Rt} (h : VRt S w v x) : VRt Any w v x := by
  obtain ⟨u1, u2, hh, h1, h2⟩ := h
  exact ⟨u1, u2, hh, h1.mono fun _ _ => trivial, h2.mono fun _ _ => trivial⟩
def RBox (w : World) (g : Nat) (x : Rt) : Prop := ∃ b c1 l1 m1 c2 l2 m2, w.heap[g]? = some (.cells #[.bool b, .slice c1 l1 m1, .slice c2 l2 m2] 51 (0, 0)) ∧ VRt Any w (.agg #[.bool b, .slice c1 l1 m1, .slice c2 l2 m2]) x
theorem RBox.below {w w' : World} {g : Nat} {x : Rt} (h : RBox w g x) (hb : Below w.heap.size w w') : RBox w' g x := by
  obtain ⟨b, c1, l1, m1, c2, l2, m2, h1, h2⟩ := h
  exact ⟨_, _, _, _, _, _, _, keep_box hb h1, h2.same (.of_below hb)⟩
theorem RBox.put {w : World} {g : Nat} {x y : Rt} {S : Nat → Prop} {b : Bool} {c1 c2 : Option Addr} {l1 m1 l2 m2 : Nat} (h : RBox w g x) (hv : VRt S w (.agg #[.bool b, .slice c1 l1 m1, .slice c2 l2 m2]) y) :
    RBox (((w.setCell ⟨g, 0, none⟩ (.bool b)).setCell ⟨g, 1, none⟩ (.slice c1 l1 m1)).setCell ⟨g, 2, none⟩ (.slice c2 l2 m2)) g y := by
  obtain ⟨b', c1', l1', m1', c2', l2', m2', hg, -⟩ := h
  refine ⟨_, _, _, _, _, _, _, ?_, VRt.any ((hv.away hg (bss_ne _ _ _ (by simp) (by simp))).same ((((Same.refl _ _).setCell (p := ⟨g, 0, none⟩) (by simp) _).setCell (p := ⟨g, 1, none⟩) (by simp) _).setCell (p := ⟨g, 2, none⟩) (by simp) _))⟩
  have := heap_setCell_at (o := 2) (heap_setCell_at (o := 1) (heap_setCell_at (o := 0) hg (.bool b)) (.slice c1 l1 m1)) (.slice c2 l2 m2)
  simpa using this
theorem RBox.type {w : World} {g : Nat} {x : Rt} (h : RBox w g x) : ∃ cs, w.heap[g]? = some (.cells cs 51 (0, 0)) := by
  obtain ⟨_, _, _, _, _, _, _, h1, -⟩ := h; exact ⟨_, h1⟩
theorem RBox.apart {w : World} {g base : Nat} {x : Rt} {v : Value} {xs : List Int} (h : RBox w g x) (ho : Own base 3 1 (dInt .i64) w v xs) : v.ownBlock ≠ some g := by
  intro e
  obtain ⟨cur, h1⟩ := own_type ho e
  obtain ⟨cs, h2⟩ := h.type
  rw [h1] at h2
  simp only [Option.some.injEq, Obj.cells.injEq] at h2
  exact absurd h2.2.1 (by decide)
theorem vrt_pq {S : Nat → Prop} {w : World} {a1 a2 : Option Addr} {c1 c2 n : Nat} (h1 : RU S w (.slice a1 (lim (bn n)).length c1) (lim (bn n))) (h2 : RU S w (.slice a2 (lim (bd n)).length c2) (lim (bd n))) : VRt S w (.agg #[.bool false, .slice a1 (lim (bn n)).length c1, .slice a2 (lim (bd n)).length c2]) (bill (n : Int)) := by
  rw [bill_of]; exact ⟨_, _, rfl, h1, h2⟩
def NewB (wr : World) (n : Nat) (s1 s2 : Value) (wc : World) : Prop := ∃ g, s1 = .pointer (some ⟨g, 0, none⟩) ∧ s2 = .int .i64 0 ∧ RBox wc g (bill (n : Int)) ∧ Below wr.heap.size wr wc ∧ wr.heap.size ≤ g
theorem NewB.late {wr w4 : World} {n : Nat} {a a' : Option Addr} {c c' : Nat} (k1 : RU Any w4 (.slice a (lim (bn n)).length c) (lim (bn n))) (k2 : RU Any w4 (.slice a' (lim (bd n)).length c') (lim (bd n))) (hb : Below wr.heap.size wr w4) :
    NewB wr n (.pointer (some ⟨w4.heap.size, 0, none⟩)) (.int .i64 0) ((((w4.alloc (.cells #[.bool false, .slice none 0 0, .slice none 0 0] 51)).setCell ⟨w4.heap.size, 0, none⟩ (.bool false)).setCell ⟨w4.heap.size, 1, none⟩ (.slice a (lim (bn n)).length c)).setCell ⟨w4.heap.size, 2, none⟩ (.slice a' (lim (bd n)).length c')) := by
  have hb2 := below_new w4 (.cells #[.bool false, .slice none 0 0, .slice none 0 0] 51)
  have hg := box_new w4 (.cells #[.bool false, .slice none 0 0, .slice none 0 0] 51)
  have hx : RBox (w4.alloc (.cells #[.bool false, .slice none 0 0, .slice none 0 0] 51)) w4.heap.size ⟨false, [], []⟩ := ⟨_, _, _, _, _, _, _, hg, _, _, rfl, RSl.nil, RSl.nil⟩
  exact ⟨_, rfl, rfl, hx.put (vrt_pq (RU.below k1 hb2) (RU.below k2 hb2)), bt hb (((hb2.setCell (p := ⟨w4.heap.size, 0, none⟩) (Nat.le_refl _) _).setCell (p := ⟨w4.heap.size, 1, none⟩) (Nat.le_refl _) _).setCell (p := ⟨w4.heap.size, 2, none⟩) (Nat.le_refl _) _), hb.size⟩
theorem NewB.laid {wr w4 : World} {n : Nat} {a a' : Option Addr} {c c' : Nat} (k1 : RU Any w4 (.slice a (lim (bn n)).length c) (lim (bn n))) (k2 : RU Any w4 (.slice a' (lim (bd n)).length c') (lim (bd n))) (hb : Below wr.heap.size wr w4) :
    NewB wr n (.pointer (some ⟨w4.heap.size, 0, none⟩)) (.int .i64 0) (w4.alloc (.cells #[.bool false, .slice a (lim (bn n)).length c, .slice a' (lim (bd n)).length c'] 51)) := by
  have hb2 := below_new w4 (.cells #[.bool false, .slice a (lim (bn n)).length c, .slice a' (lim (bd n)).length c'] 51)
  exact ⟨_, rfl, rfl, ⟨_, _, _, _, _, _, _, box_new _ _, vrt_pq (RU.below k1 hb2) (RU.below k2 hb2)⟩, bt hb hb2, hb.size⟩
theorem NewB.stored {wr w4 : World} {n g : Nat} {a a' : Option Addr} {c c' : Nat} (hg : w4.heap[g]? = some (.cells #[.bool false, .slice none 0 0, .slice none 0 0] 51 (0, 0))) (k1 : RU Any w4 (.slice a (lim (bn n)).length c) (lim (bn n))) (k2 : RU Any w4 (.slice a' (lim (bd n)).length c') (lim (bd n))) (hb : Below wr.heap.size wr w4) (hgw : wr.heap.size ≤ g) :
    NewB wr n (.pointer (some ⟨g, 0, none⟩)) (.int .i64 0) (((w4.setCell ⟨g, 0, none⟩ (.bool false)).setCell ⟨g, 1, none⟩ (.slice a (lim (bn n)).length c)).setCell ⟨g, 2, none⟩ (.slice a' (lim (bd n)).length c')) := by
  have hx : RBox w4 g ⟨false, [], []⟩ := ⟨_, _, _, _, _, _, _, hg, _, _, rfl, RSl.nil, RSl.nil⟩
  exact ⟨_, rfl, rfl, hx.put (vrt_pq k1 k2), ((hb.setCell (p := ⟨g, 0, none⟩) hgw _).setCell (p := ⟨g, 1, none⟩) hgw _).setCell (p := ⟨g, 2, none⟩) hgw _, hgw⟩
structure SumR (X : World) (g : Nat) (xs ys : List Int) (l : Rt) (wr : World) (va vb : Value) : Prop where
  a : Own X.heap.size 3 1 (dInt .i64) wr va xs
  o : Own X.heap.size 3 1 (dInt .i64) wr vb ys
  ap : ApartV va vb
  l : ∃ b c1 l1 m1 c2 l2 m2, wr.heap[g]? = some (.cells #[.bool b, .slice c1 l1 m1, .slice c2 l2 m2] 51 (0, 0)) ∧ VRt (fun b => b < X.heap.size) wr (.agg #[.bool b, .slice c1 l1 m1, .slice c2 l2 m2]) l
  b : Below X.heap.size X wr
  g : X.heap.size ≤ g
section
variable {X wr w' : World} {g : Nat} {xs ys : List Int} {l : Rt} {va vb : Value}
theorem SumR.box (h : SumR X g xs ys l wr va vb) : RBox wr g l := by
  obtain ⟨b, c1, l1, m1, c2, l2, m2, h1, h2⟩ := h.l
  exact ⟨_, _, _, _, _, _, _, h1, h2.any⟩
theorem SumR.below (h : SumR X g xs ys l wr va vb) (hb : Below wr.heap.size wr w') : SumR X g xs ys l w' va vb :=
  ⟨Own.below (S := fun _ => False) (dInt.stable _ _) h.a hb, Own.below (S := fun _ => False) (dInt.stable _ _) h.o hb, h.ap, by
    obtain ⟨b, c1, l1, m1, c2, l2, m2, h1, h2⟩ := h.l
    exact ⟨_, _, _, _, _, _, _, keep_box hb h1, h2.same (.of_below hb)⟩, h.b.trans (hb.mono h.b.size), h.g⟩
theorem own_keep {base : Nat} {v : Value} {xs : List Int} (h : Own base 3 1 (dInt .i64) wr v xs) (hn : v.ownBlock ≠ some g) (u1 u2 u3 : Value) : Own base 3 1 (dInt .i64) (((wr.setCell ⟨g, 0, none⟩ u1).setCell ⟨g, 1, none⟩ u2).setCell ⟨g, 2, none⟩ u3) v xs := by
  have hk : Keep [some g] wr (((wr.setCell ⟨g, 0, none⟩ u1).setCell ⟨g, 1, none⟩ u2).setCell ⟨g, 2, none⟩ u3) := (((Keep.refl [some g] wr).setIn g 0 u1 (.inl (by simp))).setIn g 1 u2 (.inl (by simp))).setIn g 2 u3 (.inl (by simp))
  exact hk.own (S := fun _ => False) (dInt.stable _ _) h (fun b hb hm => by simp at hm; subst hm; exact hn hb) (fun _ h => h.elim)
theorem SumR.put (h : SumR X g xs ys l wr va vb) {y : Rt} {b : Bool} {c1 c2 : Option Addr} {l1 m1 l2 m2 : Nat} (hv : VRt (fun b => b < X.heap.size) wr (.agg #[.bool b, .slice c1 l1 m1, .slice c2 l2 m2]) y) :
    SumR X g xs ys y (((wr.setCell ⟨g, 0, none⟩ (.bool b)).setCell ⟨g, 1, none⟩ (.slice c1 l1 m1)).setCell ⟨g, 2, none⟩ (.slice c2 l2 m2)) va vb := by
  have hbx := h.box
  have hg := h.g
  obtain ⟨b', c1', l1', m1', c2', l2', m2', hh, -⟩ := h.l
  refine ⟨own_keep h.a (hbx.apart h.a) _ _ _, own_keep h.o (hbx.apart h.o) _ _ _, h.ap, ⟨_, _, _, _, _, _, _, ?_, hv.same ((((Same.refl _ _).setCell (p := ⟨g, 0, none⟩) (fun hx => by have : g < X.heap.size := hx; omega) _).setCell (p := ⟨g, 1, none⟩) (fun hx => by have : g < X.heap.size := hx; omega) _).setCell (p := ⟨g, 2, none⟩) (fun hx => by have : g < X.heap.size := hx; omega) _)⟩, ((h.b.setCell (p := ⟨g, 0, none⟩) h.g _).setCell (p := ⟨g, 1, none⟩) h.g _).setCell (p := ⟨g, 2, none⟩) h.g _, h.g⟩
  have := heap_setCell_at (o := 2) (heap_setCell_at (o := 1) (heap_setCell_at (o := 0) hh (.bool b)) (.slice c1 l1 m1)) (.slice c2 l2 m2)
  simpa using this
theorem SumR.growL {v : Value} {xs : List Int} (h : Own X.heap.size 3 1 (dInt .i64) wr v xs) (hbx : RBox wr g l) (hg : wr.grownBy w' v.ownBlock) (hl : ∃ b c1 l1 m1 c2 l2 m2, wr.heap[g]? = some (.cells #[.bool b, .slice c1 l1 m1, .slice c2 l2 m2] 51 (0, 0)) ∧ VRt (fun b => b < X.heap.size) wr (.agg #[.bool b, .slice c1 l1 m1, .slice c2 l2 m2]) l) :
    ∃ b c1 l1 m1 c2 l2 m2, w'.heap[g]? = some (.cells #[.bool b, .slice c1 l1 m1, .slice c2 l2 m2] 51 (0, 0)) ∧ VRt (fun b => b < X.heap.size) w' (.agg #[.bool b, .slice c1 l1 m1, .slice c2 l2 m2]) l := by
  have hna := hbx.apart h
  obtain ⟨b, c1, l1, m1, c2, l2, m2, h1, h2⟩ := hl
  exact ⟨_, _, _, _, _, _, _, (hg.block _ (size_of_box h1) (fun e => hna e.symm)).trans h1, h2.same fun b hb hs => hg.block b hb fun e => by have := (Own.lt h b e.symm).1; have hs : b < X.heap.size := hs; omega⟩
theorem SumR.growA (h : SumR X g xs ys l wr va vb) {va' : Value} {zs : List Int} (ha : Own X.heap.size 3 1 (dInt .i64) w' va' zs) (ho : Own X.heap.size 3 1 (dInt .i64) w' vb ys) (hap : ApartV va' vb) (hg : wr.grownBy w' va.ownBlock) (hb : Below X.heap.size X w') : SumR X g zs ys l w' va' vb :=
  ⟨ha, ho, hap, SumR.growL h.a h.box hg h.l, hb, h.g⟩
theorem SumR.growB (h : SumR X g xs ys l wr va vb) {vb' : Value} {zs : List Int} (ho : Own X.heap.size 3 1 (dInt .i64) w' vb' zs) (ha : Own X.heap.size 3 1 (dInt .i64) w' va xs) (hap : ApartV vb' va) (hg : wr.grownBy w' vb.ownBlock) (hb : Below X.heap.size X w') : SumR X g xs zs l w' va vb' :=
  ⟨ha, ho, hap.symm, SumR.growL h.o h.box hg h.l, hb, h.g⟩
end
end Go.Proofs.YtakcgoehnkognaaGreat

namespace Go.Proofs.YtakcgoehnkognaaGreat

section
variable {σ : Type} {R : Rule σ} {seats C : Nat} {lot : List Int} {s0 : σ}
theorem step_snoc (s : Sq σ) : ∃ r, (step R seats lot s).rounds = s.rounds ++ [r] := by
  unfold step
  split
  · exact ⟨_, rfl⟩
  · split
    · exact ⟨_, rfl⟩
    · exact ⟨_, rfl⟩
theorem run_next {k : Nat} (h : (run R seats lot s0 C k).el.length < seats) : run R seats lot s0 C (k + 1) = step R seats lot (run R seats lot s0 C k) := by rw [run, if_pos h]
theorem run_early {k j : Nat} (h : (run R seats lot s0 C k).el.length < seats) (hj : j ≤ k) : (run R seats lot s0 C j).el.length < seats := by
  rcases Nat.lt_or_ge (run R seats lot s0 C j).el.length seats with h1 | h1
  · exact h1
  · obtain ⟨d, rfl⟩ := Nat.exists_eq_add_of_le hj
    rw [run_stop (by omega) d] at h
    omega
theorem run_grow (k : Nat) : (run R seats lot s0 C (k + 1)).rounds.length ≤ (run R seats lot s0 C k).rounds.length + 1 := by
  rw [run]
  split
  · obtain ⟨r, hr⟩ := step_snoc (R := R) (seats := seats) (lot := lot) (run R seats lot s0 C k)
    rw [hr]; simp
  · omega
theorem run_short : ∀ k, (run R seats lot s0 C k).rounds.length ≤ k
  | 0 => by simp [run]
  | k + 1 => by have := run_short k; have := run_grow (R := R) (seats := seats) (lot := lot) (s0 := s0) (C := C) k; omega
theorem run_exact : ∀ k, (∀ j, j < k → (run R seats lot s0 C j).el.length < seats) → (run R seats lot s0 C k).rounds.length = k
  | 0, _ => rfl
  | k + 1, h => by
    have ih := run_exact k fun j hj => h j (by omega)
    rw [run_next (h k (by omega))]
    obtain ⟨r, hr⟩ := step_snoc (R := R) (seats := seats) (lot := lot) (run R seats lot s0 C k)
    rw [hr]; simp [ih]
theorem run_pre (k : Nat) : ∀ d, ∃ l, (run R seats lot s0 C (k + d)).rounds = (run R seats lot s0 C k).rounds ++ l
  | 0 => ⟨[], by simp⟩
  | d + 1 => by
    obtain ⟨l, hl⟩ := run_pre k d
    rw [← Nat.add_assoc, run]
    split
    · obtain ⟨r, hr⟩ := step_snoc (R := R) (seats := seats) (lot := lot) (run R seats lot s0 C (k + d))
      rw [hr, hl]
      exact ⟨l ++ [r], by rw [List.append_assoc]⟩
    · exact ⟨l, hl⟩
theorem run_round (hl : LotOf lot C) (hs : seats ≤ C) {i : Nat} (hi : i < (run R seats lot s0 C C).rounds.length) :
    (run R seats lot s0 C i).el.length < seats ∧ (run R seats lot s0 C i).rounds = (run R seats lot s0 C C).rounds.take i ∧ (run R seats lot s0 C (i + 1)).rounds = (run R seats lot s0 C i).rounds ++ [(run R seats lot s0 C C).rounds[i]] := by
  have hiC : i < C := Nat.lt_of_lt_of_le hi (run_short C)
  have h1 : (run R seats lot s0 C i).el.length < seats := by
    rcases Nat.lt_or_ge (run R seats lot s0 C i).el.length seats with h | h
    · exact h
    · rw [← run_end hl hs (by omega : ¬ (run R seats lot s0 C i).el.length < seats)] at hi
      have := run_short (R := R) (seats := seats) (lot := lot) (s0 := s0) (C := C) i
      omega
  have h2 := run_exact i fun j hj => run_early h1 (by omega : j ≤ i)
  obtain ⟨r, hr⟩ := step_snoc (R := R) (seats := seats) (lot := lot) (run R seats lot s0 C i)
  rw [← run_next h1] at hr
  obtain ⟨l, hl2⟩ := run_pre (R := R) (seats := seats) (lot := lot) (s0 := s0) (C := C) (i + 1) (C - (i + 1))
  rw [show i + 1 + (C - (i + 1)) = C by omega] at hl2
  refine ⟨h1, ?_, ?_⟩
  · rw [hl2, hr, List.append_assoc, List.take_left' h2]
  · rw [hr]
    congr 2
    simp only [hl2, hr]
    rw [List.getElem_append_left (by rw [List.length_append, h2]; simp), List.getElem_append_right (by omega)]
    simp [h2]
def SqO (s : Sq σ) : Prop := ∀ x ∈ s.rounds.flatMap Rnd.out, x ∉ s.inn ∧ x ∉ s.el ∧ 0 ≤ x ∧ x < (C : Int)
theorem SqO.step {s : Sq σ} (hl : LotOf lot C) (h : SqI C seats s) (o : SqO (C := C) s) (h2 : s.el.length < seats) : SqO (C := C) (step R seats lot s) := by
  have hne := h.ne h2
  have hn := asc_nodup h.asc
  unfold Go.Proofs.YtakcgoehnkognaaGreat.step
  split
  · obtain ⟨f1, f2, f3, f4, f5, f6⟩ := fill_facts (had := s.had R) hl h.rng hn s.inn.length (Nat.le_refl _)
    intro x hx
    simp only [List.flatMap_append, List.flatMap_cons, List.flatMap_nil, List.append_nil, Sq.rnd] at hx
    obtain ⟨k1, k2, k3⟩ := o x hx
    refine ⟨by simp, fun hm => ?_, k3⟩
    rcases List.mem_append.1 hm with hm | hm
    · exact k2 hm
    · exact k1 (f3 x hm)
  · split
    · obtain ⟨k1, k2⟩ := h.pick hl (f := gI (s.had R)) hne
      have k2' : firstL lot (s.best R) ∈ s.inn := k2
      generalize firstL lot (s.best R) = y at *
      intro x hx
      simp only [List.flatMap_append, List.flatMap_cons, List.flatMap_nil, List.append_nil, Sq.rnd] at hx
      obtain ⟨o1, o2, o3⟩ := o x hx
      refine ⟨fun hm => o1 (List.mem_filter.1 hm).1, fun hm => ?_, o3⟩
      rcases List.mem_append.1 hm with hm | hm
      · exact o2 hm
      · exact o1 (by rw [List.mem_singleton.1 hm]; exact k2')
    · obtain ⟨k1, k2⟩ := h.pick (lot_reverse hl) (f := fun y => - gI (s.had R) y) hne
      have k2' : firstL lot.reverse (s.least R) ∈ s.inn := k2
      generalize firstL lot.reverse (s.least R) = y at *
      intro x hx
      simp only [List.flatMap_append, List.flatMap_cons, List.flatMap_nil, List.append_nil, Sq.rnd, List.mem_append, List.mem_singleton] at hx
      rcases hx with hx | rfl
      · obtain ⟨o1, o2, o3⟩ := o x hx
        exact ⟨fun hm => o1 (List.mem_filter.1 hm).1, o2, o3⟩
      · exact ⟨fun hm => by have := (List.mem_filter.1 hm).2; simp at this, h.apart _ k2', h.rng _ k2'⟩
theorem run_inv3 (hl : LotOf lot C) (hs : seats ≤ C) : ∀ k, SqO (C := C) (run R seats lot s0 C k)
  | 0 => fun x hx => absurd hx List.not_mem_nil
  | k + 1 => by
    have ih := run_inv3 hl hs k
    rw [run]
    split
    · exact ih.step hl (run_inv hl hs k) (by assumption)
    · exact ih
end
end Go.Proofs.YtakcgoehnkognaaGreat

namespace Go.Proofs.YtakcgoehnkognaaGreat
open Go Go.RowKit Go.Shelf Limb

theorem sum_filter {g : Int → Int} {p : Int → Bool} : ∀ l : List Int, ((l.filter p).map g).sum = (l.map fun x => if p x then g x else 0).sum
  | [] => rfl
  | a :: l => by
    have ih := sum_filter (g := g) (p := p) l
    rw [List.filter_cons, List.map_cons, List.sum_cons, ← ih]
    cases p a <;> simp
theorem perm_sum {a b : List Int} (h : List.Perm a b) (g : Int → Int) : (a.map g).sum = (b.map g).sum := by
  induction h with
  | nil => rfl
  | cons x _ ih => rw [List.map_cons, List.sum_cons, List.map_cons, List.sum_cons, ih]
  | swap x y l => simp only [List.map_cons, List.sum_cons]; omega
  | trans _ _ h1 h2 => exact h1.trans h2
theorem ind_sum {g : Int → Int} {C : Nat} {l : List Int} (hn : l.Nodup) (hr : ∀ x ∈ l, 0 ≤ x ∧ x < (C : Int)) : (fl C fun x => if (x : Int) ∈ l then g x else 0).sum = (l.map g).sum := by
  have hp : List.Perm ((rngI C).filter fun x => l.contains x) l := (List.perm_ext_iff_of_nodup ((rngI_nodup C).filter _) hn).2 fun a => by
    rw [List.mem_filter, mem_rngI]
    simp only [List.contains_iff_mem]
    exact ⟨fun h => h.2, fun h => ⟨hr a h, h⟩⟩
  rw [← perm_sum hp, sum_filter, fl, rngI, List.map_map]
  congr 1
  apply List.map_congr_left
  intro x _
  simp only [Function.comp, Int.ofNat_eq_natCast, List.contains_iff_mem]
theorem fl_add (C : Nat) (f g : Nat → Int) : (fl C fun x => f x + g x).sum = (fl C f).sum + (fl C g).sum := by
  induction C with
  | zero => rfl
  | succ n ih =>
    simp only [fl, List.range_succ, List.map_append, List.sum_append, List.map_cons, List.map_nil, List.sum_cons, List.sum_nil] at ih ⊢
    omega
theorem const_sum (Q : Int) : ∀ l : List Int, (l.map fun _ => Q).sum = l.length * Q
  | [] => by simp
  | a :: l => by rw [List.map_cons, List.sum_cons, const_sum Q l, List.length_cons, Int.natCast_add, Int.add_mul]; omega
theorem next_in (inn : List Int) : inN inn inn = fun r => (nextI inn r.marks).isSome := by
  funext r
  unfold inN
  cases e : nextI inn r.marks with
  | none => rfl
  | some y => simpa using (nextI_mem e).1
theorem had_sum {C seats : Nat} {Q : Int} {s : Sq RV} (h : SqI C seats s) : (greH C Q s.st s.inn s.el).sum = s.el.length * Q + valB (fun r => (nextI s.inn r.marks).isSome) s.st := by
  have e : greH C Q s.st s.inn s.el = fl C fun x => (if (x : Int) ∈ s.el then Q else 0) + (if (x : Int) ∈ s.inn then cntG s.inn s.st x else 0) := fl_congr fun x _ => by
    unfold greF
    simp only [List.contains_iff_mem]
    by_cases h1 : (x : Int) ∈ s.el
    · rw [if_pos h1, if_pos h1, if_neg (fun h2 => h.apart _ h2 h1)]; omega
    · rw [if_neg h1, if_neg h1]
      by_cases h2 : (x : Int) ∈ s.inn
      · rw [if_pos h2]; omega
      · rw [if_neg h2, cntG_out h2]; omega
  rw [e, fl_add, ind_sum (g := fun _ => Q) h.elnd h.els, ind_sum (g := cntG s.inn s.st) (asc_nodup h.asc) h.rng, const_sum, cntG_sum (asc_nodup h.asc), next_in]
def rankedB (C : Nat) (rows : List Row) : Bool := rows.all fun r => decide (r.marks.length = C) || decide (r.marks.length = 0)
theorem full_sol {C : Nat} (hC : 0 < C) {r : Row} (hm : ∀ x ∈ r.marks, 0 ≤ x ∧ x < (C : Int)) (h : r.marks.length = C) : solidB (rngI C) r = true := by
  unfold solidB
  rw [rngI_length]
  simp only [Bool.and_eq_true, decide_eq_true_eq, List.all_eq_true, List.contains_iff_mem]
  exact ⟨hC, by omega, fun x hx => mem_rngI.2 (hm x (List.mem_of_mem_take hx))⟩
theorem full_mark {C : Nat} (hC : 0 < C) : ∀ {rows : List Row}, (∀ r ∈ rows, ∀ x ∈ r.marks, 0 ≤ x ∧ x < (C : Int)) → rankedB C rows = true → solN (rngI C) rows = markS rows
  | [], _, _ => rfl
  | r :: rows, hm, hf => by
    simp only [rankedB, List.all_cons, Bool.and_eq_true, Bool.or_eq_true, decide_eq_true_eq] at hf
    have ih := full_mark hC (rows := rows) (fun s hs => hm s (List.mem_cons_of_mem _ hs)) (by simpa [rankedB] using hf.2)
    have e : markS (r :: rows) = (if r.marks.isEmpty then 0 else r.many) + markS rows := by
      rw [markS, markS, List.filter_cons]
      cases r.marks <;> simp
    rw [solN, List.map_cons, List.sum_cons, e, ← ih]
    have h0 := hm r List.mem_cons_self
    rcases hf.1 with h1 | h1
    · have h2 := full_sol hC h0 h1
      rw [h2, if_pos rfl, if_neg (by cases hr : r.marks with
        | nil => rw [hr] at h1; simp at h1; omega
        | cons a l => simp)]
      rfl
    · have hnil : r.marks = [] := List.eq_nil_of_length_eq_zero h1
      have h2 : solidB (rngI C) r = false := by
        unfold solidB
        rw [hnil, rngI_length]
        simp; omega
      rw [h2, hnil]
      rfl
section
variable {p : Prof} {seats : Int} {lot : List Int} {C sn : Nat}
theorem greS_round (h : RankF p seats lot C sn) {i : Nat} (hi : i < (greS p sn lot C).rounds.length) : (greS p sn lot i).el.length < sn ∧ (greS p sn lot i).rounds = (greS p sn lot C).rounds.take i ∧ (greS p sn lot (i + 1)).rounds = (greS p sn lot i).rounds ++ [(greS p sn lot C).rounds[i]] := by
  have hC : p.cands.toNat = C := by rw [h.cands, Int.toNat_natCast]
  unfold greS at hi ⊢
  simp only [hC] at hi ⊢
  exact run_round h.lot h.s.2 hi
theorem greS_J (h : RankF p seats lot C sn) (i : Nat) : SqJ C sn (greS p sn lot i) := by
  have hC : p.cands.toNat = C := by rw [h.cands, Int.toNat_natCast]
  unfold greS
  rw [hC]
  exact run_inv2 h.lot h.s.2 h.s.1 (fun st inn el => by show (greH C (greQ p sn) st inn el).length = C; rw [greH, fl_length]) i
theorem greS_O (h : RankF p seats lot C sn) (i : Nat) : SqO (C := C) (greS p sn lot i) := by
  have hC : p.cands.toNat = C := by rw [h.cands, Int.toNat_natCast]
  unfold greS
  rw [hC]
  exact run_inv3 h.lot h.s.2 i
def gHad (p : Prof) (sn : Nat) (lot : List Int) (C i : Nat) : List Int := greH C (greQ p sn) (greS p sn lot i).st (greS p sn lot i).inn (greS p sn lot i).el
def gLost (p : Prof) (sn : Nat) (lot : List Int) (C i : Nat) : Int := greL C (greQ p sn) (markS p.rows) (greS p sn lot i).st (greS p sn lot i).inn (greS p sn lot i).el
def gTot (p : Prof) (sn : Nat) (lot : List Int) (i : Nat) : Int := (greS p sn lot i).el.length * greQ p sn + valB (fun r => (nextI (greS p sn lot i).inn r.marks).isSome) (greS p sn lot i).st
theorem gTot_le (h : RankF p seats lot C sn) {i : Nat} (hi : (greS p sn lot i).el.length < sn) : gTot p sn lot i ≤ markS p.rows * 1000000000 := by
  have hS := greS_sol h (A := rngI C) (rngI_nodup C) (fun x hx => mem_rngI.1 hx) i
  have := hS.own ((greS_sq h i).ne hi)
  unfold gTot; omega
theorem gLost_eq (h : RankF p seats lot C sn) {i : Nat} (hi : (greS p sn lot i).el.length < sn) : gLost p sn lot C i = markS p.rows * 1000000000 - gTot p sn lot i := by
  have h1 := gTot_le h hi
  have h2 := had_sum (Q := greQ p sn) (greS_sq h i)
  unfold gLost greL
  rw [h2]
  unfold gTot at h1 ⊢
  omega
theorem gTot_down (h : RankF p seats lot C sn) {i : Nat} (hi : (greS p sn lot i).el.length < sn) (hi2 : (greS p sn lot (i + 1)).el.length < sn) : gTot p sn lot (i + 1) ≤ gTot p sn lot i := by
  have hI := greS_sq h i
  have hv := greS_inv h i
  have hok : Okv (greS p sn lot i).st := fun q hq => ⟨by have := h.many _ (hv.mem hq); omega, (hv.val q hq).1⟩
  have hne := hI.ne hi
  have hq1 := h.q
  have hst := greS_step h hi
  unfold gTot
  rw [hst] at hi2 ⊢
  generalize greS p sn lot i = s at *
  unfold step at hi2 ⊢
  split at hi2
  · exfalso
    obtain ⟨f1, f2, f3, f4, f5, f6⟩ := fill_facts (had := s.had (greR C (greQ p sn) (markS p.rows))) h.lot hI.rng (asc_nodup hI.asc) s.inn.length (Nat.le_refl _)
    have e : (s.fill (greR C (greQ p sn) (markS p.rows)) lot).elected.length = s.inn.length := f4
    simp only [List.length_append, e] at hi2
    have := hI.enough
    omega
  · rename_i hf
    rw [if_neg hf]
    split at hi2
    · rename_i hr
      rw [if_pos hr]
      have hq := reach_first h.lot hI hr
      obtain ⟨k1, k2⟩ := hI.pick h.lot (f := gI (s.had (greR C (greQ p sn) (markS p.rows)))) hne
      have k2' : firstL lot (s.best (greR C (greQ p sn) (markS p.rows))) ∈ s.inn := k2
      have hc : gI (s.had (greR C (greQ p sn) (markS p.rows))) (firstL lot (s.best (greR C (greQ p sn) (markS p.rows)))) = cntG s.inn s.st (firstL lot (s.best (greR C (greQ p sn) (markS p.rows)))) := had_in (hI.rng _ k2') (hI.apart _ k2')
      have ew : ∀ x, (greR C (greQ p sn) (markS p.rows)).win s.st s.inn s.el x = s.st.map (passG s.inn (greQ p sn) x (gI (s.had (greR C (greQ p sn) (markS p.rows))) x)) := fun _ => rfl
      rw [ew]
      rw [hc] at hq ⊢
      generalize firstL lot (s.best (greR C (greQ p sn) (markS p.rows))) = x at *
      dsimp only
      have t1 := pass_take (inn := s.inn) (x := x) (Q := greQ p sn) (show 1 ≤ cntG s.inn s.st x by omega) hok rfl
      have hok2 := hok.pass (inn := s.inn) (x := x) (show 1 ≤ cntG s.inn s.st x by omega) (Q := greQ p sn) ⟨by omega, hq⟩
      have t2 := valB_mono (P := fun r => (nextI (s.inn.filter fun y => !(y == x)) r.marks).isSome) (P' := fun r => (nextI s.inn r.marks).isSome) hok2 fun q _ hp => next_drop hp
      rw [List.length_append, List.length_cons, List.length_nil, Int.natCast_add, Int.add_mul]
      omega
    · rename_i hr
      rw [if_neg hr]
      dsimp only
      have t2 := valB_mono (P := fun r => (nextI (s.inn.filter fun y => !(y == firstL lot.reverse (s.least (greR C (greQ p sn) (markS p.rows))))) r.marks).isSome) (P' := fun r => (nextI s.inn r.marks).isSome) hok fun q _ hp => next_drop hp
      have e : (greR C (greQ p sn) (markS p.rows)).out s.st s.inn s.el (firstL lot.reverse (s.least (greR C (greQ p sn) (markS p.rows)))) = s.st := rfl
      rw [e]
      omega
theorem gLost_full (h : RankF p seats lot C sn) (hf : rankedB C p.rows = true) {i : Nat} (hi : (greS p sn lot i).el.length < sn) : gLost p sn lot C i < 10000000 := by
  have hI := greS_sq h i
  have hv := greS_inv h i
  have hC := h.c10
  have hs := h.s
  have hok : Okv (greS p sn lot i).st := fun q hq => ⟨by have := h.many _ (hv.mem hq); omega, (hv.val q hq).1⟩
  have hne := hI.ne hi
  have hS := greS_sol h (A := rngI C) (rngI_nodup C) (fun x hx => mem_rngI.1 hx) i
  obtain ⟨y, hy⟩ := List.exists_mem_of_ne_nil _ hne
  have hin : insI (rngI C) (greS p sn lot i).inn ≠ [] := List.ne_nil_of_mem (mem_insI.2 ⟨mem_rngI.2 (hI.rng y hy), hy⟩)
  have s1 := hS.sol hin
  have hjl := ins_le (A := rngI C) (rngI_nodup C) hI.elnd
  have s2 := valB_mono (P := solidB (rngI C)) (P' := fun r => (nextI (greS p sn lot i).inn r.marks).isSome) hok fun q hq hs => by
    obtain ⟨x, -, e⟩ := next_solid (h.marks _ (hv.mem hq)).1 hs hin
    rw [e]; rfl
  rw [gLost_eq h hi]
  rw [full_mark hC.1 (fun r hr => (h.marks r hr).2) hf] at s1
  unfold gTot
  have hq := h.q
  generalize (insI (rngI C) (greS p sn lot i).el).length = j at *
  generalize (greS p sn lot i).el.length = e at *
  have h1 : (j : Int) * (greQ p sn + 1000000) ≤ e * (greQ p sn + 1000000) := Int.mul_le_mul_of_nonneg_right (by omega) (by omega)
  rw [Int.mul_add (e : Int)] at h1
  omega
structure RndG (p : Prof) (sn : Nat) (lot : List Int) (C i : Nat) (r : Rnd) (rds : List Rnd) : Prop where
  had : r.had = (gHad p sn lot C i).map bill
  lost : r.lost = bill (gLost p sn lot C i)
  len : (gHad p sn lot C i).length = C
  bnd : ∀ x : Nat, 0 ≤ gI (gHad p sn lot C i) x ∧ gI (gHad p sn lot C i) x ≤ 1000000000000000
  lbnd : 0 ≤ gLost p sn lot C i ∧ gLost p sn lot C i ≤ 1000000000000000
  sum : (gHad p sn lot C i).sum + gLost p sn lot C i = markS p.rows * 1000000000
  els : ∀ x : Nat, x < C → (x : Int) ∈ (rds.take i).flatMap Rnd.elected → gI (gHad p sn lot C i) x = greQ p sn
  outs : ∀ x : Nat, x < C → (x : Int) ∈ (rds.take i).flatMap Rnd.out → gI (gHad p sn lot C i) x = 0
theorem rndG (h : RankF p seats lot C sn) {i : Nat} (hi : i < (greS p sn lot C).rounds.length) : RndG p sn lot C i (greS p sn lot C).rounds[i] (greS p sn lot C).rounds := by
  obtain ⟨r1, r2, r3⟩ := greS_round h hi
  have hI := greS_sq h i
  have hv := greS_inv h i
  have hJ := greS_J h i
  have hO := greS_O h i
  have hst := greS_step h r1
  have hrd : ∃ e o, (greS p sn lot C).rounds[i] = (greS p sn lot i).rnd (greR C (greQ p sn) (markS p.rows)) e o := by
    rw [hst] at r3
    unfold step at r3
    split at r3
    · exact ⟨_, _, (List.singleton_inj.1 (List.append_cancel_left r3)).symm⟩
    · split at r3
      · exact ⟨_, _, (List.singleton_inj.1 (List.append_cancel_left r3)).symm⟩
      · exact ⟨_, _, (List.singleton_inj.1 (List.append_cancel_left r3)).symm⟩
  obtain ⟨e, o, hrd⟩ := hrd
  have hlen : (gHad p sn lot C i).length = C := by rw [gHad, greH, fl_length]
  have hat : ∀ x : Nat, x < C → gI (gHad p sn lot C i) x = greF (greQ p sn) (greS p sn lot i).st (greS p sn lot i).inn (greS p sn lot i).el x := fun x hx => by
    rw [gI_at (by rw [hlen]; exact hx)]
    simp only [gHad, greH]
    rw [fl_get]
  have hg := h.gval hv
  have hq := h.q
  have hvt := h.votes
  have hlo := gLost_eq h r1
  have hto : 0 ≤ gTot p sn lot i := by
    have h1 := valB_mono (P := fun _ => false) (P' := fun r => (nextI (greS p sn lot i).inn r.marks).isSome) (fun q hq => ⟨by have := h.many _ (hv.mem hq); omega, (hv.val q hq).1⟩) (fun _ _ h => by cases h)
    have h2 : valB (fun _ => false) (greS p sn lot i).st = 0 := by
      rw [valB]
      have : ∀ l : RV, (l.map fun _ => (0 : Int)).sum = 0 := fun l => by induction l with
        | nil => rfl
        | cons a l ih => rw [List.map_cons, List.sum_cons, ih]; rfl
      simpa using this (greS p sn lot i).st
    have h3 : 0 ≤ ((greS p sn lot i).el.length : Int) * greQ p sn := Int.mul_nonneg (by omega) (by omega)
    unfold gTot; omega
  refine ⟨by rw [hrd]; rfl, by rw [hrd]; rfl, hlen, fun x => ?_, ?_, ?_, fun x hx hm => ?_, fun x hx hm => ?_⟩
  · by_cases hx : x < C
    · rw [hat x hx]
      have h1 := hg.cntAll (greS p sn lot i).inn (x : Int)
      unfold greF
      split <;> omega
    · have : gI (gHad p sn lot C i) x = 0 := by rw [gI, List.getD_eq_getElem?_getD, List.getElem?_eq_none (by rw [hlen]; omega)]; rfl
      omega
  · have := gTot_le h r1; omega
  · have h2 := had_sum (Q := greQ p sn) hI
    rw [hlo, gHad, h2, gTot]; omega
  · rw [← r2, hJ.els] at hm
    rw [hat x hx, greF, if_pos (by simpa using hm)]
  · rw [← r2] at hm
    obtain ⟨o1, o2, -⟩ := hO x hm
    rw [hat x hx, greF, if_neg (by simpa using o2), cntG_out o1]
theorem lost_grows (h : RankF p seats lot C sn) {i : Nat} (hi : i + 1 < (greS p sn lot C).rounds.length) : gLost p sn lot C i ≤ gLost p sn lot C (i + 1) := by
  obtain ⟨r1, -, -⟩ := greS_round h (show i < (greS p sn lot C).rounds.length by omega)
  obtain ⟨r2, -, -⟩ := greS_round h hi
  rw [gLost_eq h r1, gLost_eq h r2]
  have := gTot_down h r1 r2
  omega
theorem lost_full (h : RankF p seats lot C sn) (hf : rankedB C p.rows = true) {i : Nat} (hi : i < (greS p sn lot C).rounds.length) : gLost p sn lot C i < 10000000 := gLost_full h hf (greS_round h hi).1
end
end Go.Proofs.YtakcgoehnkognaaGreat
