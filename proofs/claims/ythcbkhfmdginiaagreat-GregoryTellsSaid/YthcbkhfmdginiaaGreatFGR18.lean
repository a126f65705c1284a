/- Texts of one claim, put together: RefT, R17, R18A, R18B, R18C, R18D, RefS. -/
import Derived.Test.YthcbkhfmdginiaaGreatFGGreA
import Derived.Test.YthcbkhfmdginiaaGreatFGNatR
import Derived.Test.YthcbkhfmdginiaaGreatFGRul
import Derived.Test.YthcbkhfmdginiaaGreatFGGreM
import Derived.Test.YthcbkhfmdginiaaGreatFGRen
import Derived.Test.YthcbkhfmdginiaaGreatFGNat
import Derived.Test.YthcbkhfmdginiaaGreatFGOne
import Derived.StillTailTactics

namespace Go.Proofs.YthcbkhfmdginiaaGreat
open Go Go.RowKit Go.Shelf Limb

theorem r17in (n : Int) (w : World) : Calls Tryz.prog 142 #[.int .i64 n] w fun e w' => e = .returned (.bool (decide (0 ≤ n ∧ n ≤ 1000000000000000))) ∧ w' = w := by
 by_cases h1 : 0 ≤ n
 ·by_cases h2 : n ≤ 1000000000000000
  ·rw [decide_eq_true ⟨h1, h2⟩]
   have g1 : n ≥ 0 := h1
   go_enter Tryz.func142, Tryz.ntmps142
   go_wp2
   go_ret
   exact ⟨rfl, rfl⟩
  ·rw [decide_eq_false (fun h => h2 h.2)]
   have g1 : n ≥ 0 := h1
   go_enter Tryz.func142, Tryz.ntmps142
   go_wp2
   go_ret
   exact ⟨rfl, rfl⟩
 ·rw [decide_eq_false (fun h => h1 h.1)]
  have g1 : ¬ n ≥ 0 := h1
  go_enter Tryz.func142, Tryz.ntmps142
  go_wp2
  go_ret
  exact ⟨rfl, rfl⟩
set_option maxHeartbeats 1000000 in
theorem r17Ratio (n : Nat) (w : World) (hn : n ≤ 1000000000000000) : Calls Tryz.prog 131 #[.int .i64 n] w (GivesB n w) := by
 have hb0 := below_new w (.cells #[.bool false, .slice none 0 0, .slice none 0 0] 56)
 obtain ⟨W0, hW0⟩ : ∃ W, W = w.alloc (.cells #[.bool false, .slice none 0 0, .slice none 0 0] 56) := ⟨_, rfl⟩
 have hgA : W0.heap[w.heap.size]? = some (.cells #[.bool false, .slice none 0 0, .slice none 0 0] 56 (0, 0)) := by rw [hW0]; exact box_new w _
 have hz0 : W0.heap.size = w.heap.size + 1 := by rw [hW0]; simp
 have hIn := fun W => r17in (n : Int) W
 have hall : decide (0 ≤ (n : Int) ∧ (n : Int) ≤ 1000000000000000) = true := by simp; omega
 rw [hall] at hIn
 have hR := fun W => r4OfF n 1000000000 W (by omega) (by omega) (by omega)
 unfold GivesB
 rw [bill_nat]
 simp only
 obtain ⟨xs, hxs⟩ : ∃ xs, lim (n / Nat.gcd n 1000000000) = xs := ⟨_, rfl⟩
 obtain ⟨ys, hys⟩ : ∃ ys, lim (1000000000 / Nat.gcd n 1000000000) = ys := ⟨_, rfl⟩
 rw [hxs, hys] at hR ⊢
 obtain ⟨L1, hL1⟩ : ∃ L, xs.length = L := ⟨_, rfl⟩
 obtain ⟨L2, hL2⟩ : ∃ L, ys.length = L := ⟨_, rfl⟩
 rw [hL1, hL2] at hR
 have HA := Lib.hid hIn; have HR := Lib.hid hR; have HW0 := Lib.hid hW0; have HgA := Lib.hid hgA; have Hz0 := Lib.hid hz0; have Hb0 := Lib.hid hb0
 clear hIn hR hW0 hgA hz0 hb0 hall hxs hys hL1 hL2
 go_enter Tryz.func131, Tryz.ntmps131
 go_wp2_with (first
  | (go_at_call 142; refine (HA.out _).mono ?_; rintro e w1 ⟨rfl, rfl⟩; rw [← HW0.out])
  | (go_at_call 187; refine (HR.out _).mono ?_; rintro e w2 ⟨a, c, a', c', rfl, k1, k2, hb2⟩; have K1 := Lib.hid k1; have K2 := Lib.hid k2; have B2 := Lib.hid hb2; obtain ⟨-, z2, f2⟩ := own_box B2.out (by rw [Hz0.out]; omega) HgA.out; have z20 := z2 0; have z21 := z2 1; have z22 := z2 2; have f20 := f2 0; have f21 := f2 1; have f22 := f2 2; clear k1 k2 hb2 z2 f2))
 have hl : w.heap.size < w2.heap.size := by have := B2.out.size; have := Hz0.out; omega
 refine bodyPost_ret (v := .tuple #[.agg #[.bool false, .slice a L1 c, .slice a' L2 c'], .int .i64 0]) (by simp [results, Tryz.results131, go_sem, z20, z21, z22]) rfl ⟨a, _, c, a', _, c', rfl, ?_, ?_, ?_⟩
 ·refine RSl.mono (fun _ _ _ h => h) (fun b hb => ?_) (RU.same ((((Same.refl (fun b => w.heap.size < b) w2).setCell (p := ⟨w.heap.size, 0, none⟩) (by simp) _).setCell (p := ⟨w.heap.size, 1, none⟩) (by simp) _).setCell (p := ⟨w.heap.size, 2, none⟩) (by simp) _) (RU.mono (T := fun b => w.heap.size < b) (fun b hb => ?_) K1.out))
  ·exact Nat.le_of_lt hb
  ·have hh := hb; have := Hz0.out; simp [From] at hh; omega
 ·refine RSl.mono (fun _ _ _ h => h) (fun b hb => ?_) (RU.same ((((Same.refl (fun b => w.heap.size < b) w2).setCell (p := ⟨w.heap.size, 0, none⟩) (by simp) _).setCell (p := ⟨w.heap.size, 1, none⟩) (by simp) _).setCell (p := ⟨w.heap.size, 2, none⟩) (by simp) _) (RU.mono (T := fun b => w.heap.size < b) (fun b hb => ?_) K2.out))
  ·exact Nat.le_of_lt hb
  ·have hh := hb; have := Hz0.out; simp [From] at hh; omega
 ·exact (((bt Hb0.out (HW0.out ▸ B2.out)).setCell (p := ⟨w.heap.size, 0, none⟩) (Nat.le_refl _) _).setCell (p := ⟨w.heap.size, 1, none⟩) (Nat.le_refl _) _).setCell (p := ⟨w.heap.size, 2, none⟩) (Nat.le_refl _) _
set_option maxHeartbeats 1000000 in
theorem r18Told (S : Nat → Prop) (v : Value) (l : List Int) (w : World) (h : RInts S w v l) (hl : l.length ≤ 1000000) (hn : ∀ x ∈ l, 0 ≤ x ∧ x ≤ 1000000000000000) :
  Calls Tryz.prog 66 #[v] w (GivesR (l.map bill) w) := by
 obtain ⟨a, cap, rfl, h1, h2⟩ := RSl.shape h
 have hH := fun W (hW : Below w.heap.size w W) => h.same (.of_below hW)
 have HH := Lib.hid hH; have Hn := Lib.hid hn
 clear hH h hn
 go_enter Tryz.func66, Tryz.ntmps66
 go_wp2
 go_loopw [3, 4] (fun s i wr => ∃ k : Nat, k ≤ l.length ∧ i = .int .i64 k ∧ Hid (OwnX w.heap.size 56 3 dRt wr s ((l.take k).map bill)) ∧ Below w.heap.size w wr) (fun _ i _ => l.length - (intOf i).toNat)
 case atStart => exact ⟨0, Nat.zero_le _, rfl, Lib.hid (OwnX.nil _ _ _ _ _), Below.refl _ _⟩
 case round =>
  obtain ⟨k, hk, rfl, hO, hb⟩ := hrel
  obtain ⟨ao, co, hso⟩ := hO.out.shape
  obtain ⟨m, hm⟩ : ∃ m, ((l.take k).map bill).length = m := ⟨_, rfl⟩
  rw [hm] at hso
  subst hso
  have hz := hb.size
  by_cases hlt : k < l.length
  ·obtain ⟨b, off, c, rfl, hS, hbw, hc, hx⟩ := RSl.at1 (HH.out wr hb) k hlt
   obtain ⟨rfl, hwf⟩ := hx.open
   obtain ⟨hx0, hx1⟩ := Hn.out _ (List.getElem_mem hlt)
   have hst : (l.take (k + 1)).map bill = (l.take k).map bill ++ [bill l[k]] := by rw [List.take_succ_eq_append_getElem hlt, List.map_append]; rfl
   obtain ⟨n, hnx⟩ : ∃ n : Nat, l[k] = (n : Int) := ⟨l[k].toNat, by omega⟩
   rw [hnx] at hc hst hx1
   have hcall := r17Ratio n wr (by omega)
   have hml : ((l.take k).map bill).length ≤ 1000000 := by rw [List.length_map, List.length_take]; omega
   have hD : ∀ w1 a1 m1 c1 a2 m2 c2, Below wr.heap.size wr w1 → RU (From wr.heap.size) w1 (.slice a1 m1 c1) (bill n).num → RU (From wr.heap.size) w1 (.slice a2 m2 c2) (bill n).den → dRt (Rg w.heap.size (w1.alloc (.cells #[.bool false, .slice a1 m1 c1, .slice a2 m2 c2] 56)) (.slice ao m co)) (w1.alloc (.cells #[.bool false, .slice a1 m1 c1, .slice a2 m2 c2] 56)) [.bool false, .slice a1 m1 c1, .slice a2 m2 c2] (bill n) := fun w1 a1 m1 c1 a2 m2 c2 hb1 k1 k2 => by
    have hS : ∀ b, Cut (From wr.heap.size) w1.heap.size b → Rg w.heap.size (w1.alloc (.cells #[.bool false, .slice a1 m1 c1, .slice a2 m2 c2] 56)) (.slice ao m co) b := fun b hb' => ⟨Nat.le_trans hz hb'.1, Nat.lt_of_lt_of_le hb'.2 (below_new w1 _).size, fun e => by have := (Own.lt hO.out b e.symm).2; have := hb'.1; simp only [From] at this; omega⟩
    exact ⟨_, _, by rw [bill_nat], (RU.mono hS k1.cut).below (below_new _ _), (RU.mono hS k2.cut).below (below_new _ _)⟩
   have hOw : ∀ w1 a1 m1 c1 a2 m2 c2, Below wr.heap.size wr w1 → OwnX w.heap.size 56 3 dRt (w1.alloc (.cells #[.bool false, .slice a1 m1 c1, .slice a2 m2 c2] 56)) (.slice ao m co) ((l.take k).map bill) ∧ Below w.heap.size w (w1.alloc (.cells #[.bool false, .slice a1 m1 c1, .slice a2 m2 c2] 56)) ∧ w.heap.size ≤ (w1.alloc (.cells #[.bool false, .slice a1 m1 c1, .slice a2 m2 c2] 56)).heap.size := fun w1 a1 m1 c1 a2 m2 c2 hb1 =>
    ⟨OwnX.below famRt (OwnX.below famRt hO.out hb1) (below_new _ _), bt hb (hb1.trans ((below_new w1 _).mono hb1.size)), Nat.le_trans hz (Nat.le_trans hb1.size (below_new w1 _).size)⟩
   have Hst := Lib.hid hst; have HC := Lib.hid hcall; have Hml := Lib.hid hml; have HD := Lib.hid hD; have HOw := Lib.hid hOw
   clear hst hcall hml hD hOw hnx hm hO
   go_wp2_with (first
    | (go_at_call 131; refine HC.out.mono ?_; rintro e w1 ⟨a1, m1, c1, a2, m2, c2, rfl, k1, k2, hb1⟩; have HD1 := Lib.hid (HD.out _ _ _ _ _ _ _ hb1 k1 k2); have HO1 := Lib.hid (HOw.out _ a1 m1 c1 a2 m2 c2 hb1); clear k1 k2 hb1)
    | (at_builtin; go_must (refine wpList_appE _ Tryz.infoRt rfl rfl Tryz.underlying53 ⟨rfl, by omega, by omega, by omega⟩ famRt w.heap.size HO1.out.1 rfl (cs := [.bool false, .slice a1 m1 c1, .slice a2 m2 c2]) rfl HD1.out (by show Value.slice _ _ _ = _; simp [go_sem]) Hml.out HO1.out.2.2 ?_); intro a3 n3 c3 w3 ho3 hb3; have Ho3 := Lib.hid ho3; have Hb3 := Lib.hid (hb3 _ _ (Nat.le_refl _) HO1.out.2.1); clear ho3 hb3))
   exact ⟨⟨k + 1, by omega, by go_num, Lib.hid (by rw [Hst.out]; exact Ho3.out), Hb3.out⟩, by simp [intOf]; omega⟩
  ·obtain rfl : k = l.length := by omega
   have hO2 := hO.out
   rw [List.take_length] at hO2
   have HO2 := Lib.hid hO2
   clear hO2 hO hm
   go_wp2
   go_ret
   exact ⟨_, rfl, HO2.out, hb⟩
end Go.Proofs.YthcbkhfmdginiaaGreat

namespace Go.Proofs.YthcbkhfmdginiaaGreat
open Go Go.RowKit Go.Shelf Limb

theorem val_drop {xs : List Int} {k : Nat} (h : k < xs.length) : val (xs.drop k) = xs[k] + 4294967296 * val (xs.drop (k + 1)) := by
 rw [List.drop_eq_getElem_cons h]; rfl
def wordV (n : Nat) : Nat := if n < 18446744073709551616 then n else 0
def wordI (n : Nat) : Int := if n < 18446744073709551616 then 0 else 30
set_option maxHeartbeats 1000000 in
theorem r3Word (S : Nat → Prop) (v : Value) (n : Nat) (w : World) (h : RU S w v (lim n)) (hl : (lim n).length ≤ 96) :
  Calls Tryz.prog 192 #[v] w fun e w' => e = .returned (.tuple #[.int .u64 (wordV n), .int .i64 (wordI n)]) ∧ w' = w := by
 have hC := r3Check S v _ w h
 rw [chk_of_lim hl] at hC
 obtain ⟨a, cap, rfl, -, -⟩ := RSl.shape h
 have hv := val_lim n
 have hlim := lim_Lim n
 by_cases hn : n < 18446744073709551616
 ·have hl2 : (lim n).length ≤ 2 := lim_length_le (k := 2) (by rw [pw_succ, pw_succ, pw_zero]; omega)
  rw [wordV, wordI, if_pos hn, if_pos hn]
  obtain ⟨xs, hxs⟩ : ∃ xs, lim n = xs := ⟨_, rfl⟩
  rw [hxs] at h hl hv hlim hC hl2 ⊢
  obtain ⟨L, hL⟩ : ∃ L, xs.length = L := ⟨_, rfl⟩
  rw [hL] at h hl hC hl2 ⊢
  have hd : val (xs.drop L) = 0 := by rw [← hL, List.drop_length]; rfl
  have HC := Lib.hid hC; have HH := Lib.hid h; have Hv := Lib.hid hv; have Hlim := Lib.hid hlim; have HL := Lib.hid hL; have Hd := Lib.hid hd
  clear hC h hv hlim hL hxs hn hl hd
  have hL2 : ¬ L > 2 := by omega
  go_enter Tryz.func192, Tryz.ntmps192
  go_wp2_with (go_at_call 206; refine HC.out.mono ?_; rintro e w1 ⟨rfl, rfl⟩)
  go_loopw [5, 6] (fun sv i wr => ∃ (k : Nat) (m : Int), k ≤ L ∧ i = .int .i64 ((k : Int) - 1) ∧ sv = .int .u64 m ∧ Hid (m = val (xs.drop k)) ∧ (k = L → m = 0) ∧ 0 ≤ m ∧ (1 ≤ k → m < 4294967296) ∧ wr = w) (fun _ i _ => (intOf i + 1).toNat)
  case atStart => exact ⟨L, 0, Nat.le_refl _, rfl, rfl, Lib.hid Hd.out.symm, fun _ => rfl, Int.le_refl _, fun _ => by omega, rfl⟩
  case round =>
   obtain ⟨k, m, hk, rfl, rfl, hm, hkL, hm0, hm1, rfl⟩ := hrel
   cases k with
   | zero =>
    have hfin : m = n := by rw [hm.out, List.drop_zero, Hv.out]
    have Hfin := Lib.hid hfin
    clear hfin hkL hm0 hm1 hm
    rw [show (((0 : Nat) : Int) - 1) = -1 by rfl]
    go_wp2
    go_ret2
    exact ⟨by rw [Hfin.out]; rfl, rfl⟩
   | succ k =>
    have hlr : k < xs.length := by rw [HL.out]; omega
    obtain ⟨b, off, c, rfl, -, hbl, hc, hx⟩ := RSl.at1 HH.out k hlr
    obtain ⟨rfl, -⟩ := hx.open
    obtain ⟨x0, x1⟩ := Hlim.out _ (List.getElem_mem hlr)
    have hst := val_drop hlr
    rw [← hm.out] at hst
    obtain ⟨y, hy⟩ : ∃ y, xs[k] = y := ⟨_, rfl⟩
    rw [hy] at hc x0 x1 hst
    have hmb := hm1 (by omega)
    have hi : (((k + 1 : Nat) : Int) - 1) = (k : Int) := by omega
    rw [hi]
    have Hst := Lib.hid hst; have HkL := Lib.hid hkL
    have hm0' : k + 1 = L → m = 0 := hkL
    have hnew : 0 ≤ 4294967296 * m + y ∧ 4294967296 * m + y < 18446744073709551616 := by omega
    have hmul : 0 ≤ 4294967296 * m ∧ 4294967296 * m < 18446744073709551616 := by omega
    have Hz := Lib.hid (show 1 ≤ k → 4294967296 * m + y < 4294967296 by intro h1; have : m = 0 := hkL (by omega); omega)
    clear hst hy hx hlr hkL hm0' hm1 hi hm
    go_wp2
    exact ⟨⟨k, 4294967296 * m + y, by omega, by go_num, by go_num, Lib.hid (by rw [Hst.out]; omega), fun h => absurd h (by omega), hnew.1, fun h1 => Hz.out h1, trivial⟩, by simp [intOf]⟩
 ·have hl2 : 2 < (lim n).length := by
   rcases Nat.lt_or_ge 2 (lim n).length with h1 | h1
   ·exact h1
   ·exfalso
    have h2 := val_lt hlim
    rw [hv] at h2
    have h3 : pw (lim n).length ≤ pw 2 := pw_mono h1
    rw [pw_succ, pw_succ, pw_zero] at h3
    omega
  rw [wordV, wordI, if_neg hn, if_neg hn]
  obtain ⟨L, hL⟩ : ∃ L, (lim n).length = L := ⟨_, rfl⟩
  rw [hL] at hC hl2 ⊢
  have HC := Lib.hid hC
  clear hC h hv hlim hL hn hl
  go_enter Tryz.func192, Tryz.ntmps192
  go_wp2_with (go_at_call 206; refine HC.out.mono ?_; rintro e w1 ⟨rfl, rfl⟩)
  go_ret2
  exact ⟨rfl, rfl⟩
theorem lim_len3 {n : Nat} (h : n ≤ 1000000000000000) : (lim n).length ≤ 2 := lim_length_le (k := 2) (by rw [pw_succ, pw_succ, pw_zero]; omega)
theorem lim_len5 {n : Nat} (h : n ≤ 1000000000000000000000000000000) : (lim n).length ≤ 4 := lim_length_le (k := 4) (by rw [pw_succ, pw_succ, pw_succ, pw_succ, pw_zero]; omega)
set_option maxHeartbeats 1000000 in
theorem r17divided (a b c : Nat) (w : World) (ha : a ≤ 1000000000000000) (hb : b ≤ 1000000000000000) (hc : c ≤ 1000000000000000) (hc0 : 0 < c) :
  Calls Tryz.prog 143 #[.int .i64 a, .int .i64 b, .int .i64 c] w fun e w' => ∃ x y, e = .returned (.tuple #[.slice x (lim (a * b / c)).length y, .bool (decide (0 < (lim (a * b % c)).length))]) ∧ NumAt w' (.slice x (lim (a * b / c)).length y) (a * b / c) ∧ Below w.heap.size w w' := by
 have hO := fun (n : Nat) (W : World) (hn : n ≤ 1000000000000000) => r3Of n W (by omega)
 have hab : a * b ≤ 1000000000000000 * 1000000000000000 := Nat.mul_le_mul ha hb
 have hm5 := lim_len5 (n := a * b) (by omega)
 have hM := fun (W : World) (va vb : Value) (h1 : NumAt W va a) (h2 : NumAt W vb b) => r3Mul va vb a b W h1 h2 (by have := lim_len3 ha; omega) (by have := lim_len3 hb; omega)
 have hD := fun (W : World) (va vb : Value) (h1 : NumAt W va (a * b)) (h2 : NumAt W vb c) => r3Div va vb (a * b) c W h1 h2 (by omega) (by have := lim_len3 hc; omega) hc0
 have hM2 := fun (W : World) (va vb : Value) (h1 : NumAt W va a) (h2 : NumAt W vb b) => (hM W va vb h1 h2).mono fun e w' hh => (show ∃ x y, e = .returned (.tuple #[.slice x (lim (a * b)).length y, .int .i64 0]) ∧ NumAt w' (.slice x (lim (a * b)).length y) (a * b) ∧ Below W.heap.size W w' by
  obtain ⟨x, y, rfl, h3⟩ := hh.1 (by omega)
  exact ⟨x, y, rfl, h3, hh.2.2⟩)
 have hA := fun W => hO a W ha
 have hB := fun W => hO b W hb
 have hC := fun W => hO c W hc
 unfold GivesN at hA hB hC
 obtain ⟨p, hp⟩ : ∃ p, a * b = p := ⟨_, rfl⟩
 simp only [hp] at hM2 hD ⊢
 obtain ⟨la, hla⟩ : ∃ l, (lim a).length = l := ⟨_, rfl⟩
 obtain ⟨lb, hlb⟩ : ∃ l, (lim b).length = l := ⟨_, rfl⟩
 obtain ⟨lc, hlc⟩ : ∃ l, (lim c).length = l := ⟨_, rfl⟩
 obtain ⟨lp, hlp⟩ : ∃ l, (lim p).length = l := ⟨_, rfl⟩
 obtain ⟨lq, hlq⟩ : ∃ l, (lim (p / c)).length = l := ⟨_, rfl⟩
 obtain ⟨lr, hlr⟩ : ∃ l, (lim (p % c)).length = l := ⟨_, rfl⟩
 simp only [hla] at hA
 simp only [hlb] at hB
 simp only [hlc] at hC
 simp only [hlp] at hM2
 simp only [hlq, hlr] at hD ⊢
 have HA := Lib.hid hA; have HB := Lib.hid hB; have HC := Lib.hid hC; have HM := Lib.hid hM2; have HD := Lib.hid hD
 have st0 := Lib.hid True.intro
 clear hO hab hm5 hM hD hM2 hA hB hC hp hla hlb hlc hlp hlq hlr
 go_enter Tryz.func143, Tryz.ntmps143
 go_wp2_with (first
  | (have := st2; go_at_call 191; clear st2; refine (HC.out _).mono ?_; rintro e w4 ⟨x4, y4, rfl, k4, hb4⟩; have K4 := Lib.hid k4; have B4 := Lib.hid (bt B3.out hb4); have K3' := Lib.hid (K3.out.same hb4); clear k4 hb4 this)
  | (have := st1; go_at_call 191; clear st1; refine (HB.out _).mono ?_; rintro e w2 ⟨x2, y2, rfl, k2, hb2⟩; have K2 := Lib.hid k2; have B2 := Lib.hid (bt B1.out hb2); have K1' := Lib.hid (K1.out.same hb2); clear k2 hb2 this)
  | (have := st0; go_at_call 191; clear st0; refine (HA.out _).mono ?_; rintro e w1 ⟨x1, y1, rfl, k1, hb1⟩; have K1 := Lib.hid k1; have B1 := Lib.hid hb1; clear k1 hb1 this; have st1 := Lib.hid True.intro)
  | (go_at_call 111; refine (HM.out _ _ _ K1'.out K2.out).mono ?_; rintro e w3 ⟨x3, y3, rfl, k3, hb3⟩; have K3 := Lib.hid k3; have B3 := Lib.hid (bt B2.out hb3); clear k3 hb3; have st2 := Lib.hid True.intro)
  | (go_at_call 175; refine (HD.out _ _ _ K3'.out K4.out).mono ?_; rintro e w5 ⟨x5, y5, x6, y6, rfl, k5, -, hb5⟩; have K5 := Lib.hid k5; have B5 := Lib.hid (bt B4.out hb5); clear k5 hb5))
 go_ret2
 exact ⟨_, _, by simp, K5.out, B5.out⟩
def toldV (n : Nat) : Int := if n ≤ 1000000000000000 then n else 0
def toldI (n : Nat) : Int := if n ≤ 1000000000000000 then 0 else 30
theorem r17told (v : Value) (n : Nat) (w : World) (h : NumAt w v n) (hl : (lim n).length ≤ 96) :
  Calls Tryz.prog 144 #[v] w fun e w' => e = .returned (.tuple #[.int .i64 (toldV n), .int .i64 (toldI n)]) ∧ w' = w := by
 have hW := r3Word Any v n w h.ru hl
 obtain ⟨a, c, rfl, -⟩ := h
 by_cases h1 : n ≤ 1000000000000000
 ·rw [toldV, toldI, if_pos h1, if_pos h1]
  rw [wordV, wordI, if_pos (by omega), if_pos (by omega)] at hW
  obtain ⟨z, hz⟩ : ∃ z : Int, (n : Int) = z := ⟨_, rfl⟩
  have hz0 : 0 ≤ z := by omega
  have hz1 : z < 9223372036854775808 := by omega
  have hz2 : ¬ z > 1000000000000000 := by omega
  simp only [hz] at hW ⊢
  have HW := Lib.hid hW
  clear hW hl h1 hz
  go_enter Tryz.func144, Tryz.ntmps144
  go_wp2_with (go_at_call 192; refine HW.out.mono ?_; rintro e w1 ⟨rfl, rfl⟩)
  go_ret2
  exact ⟨rfl, rfl⟩
 ·rw [toldV, toldI, if_neg h1, if_neg h1]
  by_cases h2 : n < 18446744073709551616
  ·rw [wordV, wordI, if_pos h2, if_pos h2] at hW
   obtain ⟨z, hz⟩ : ∃ z : Int, (n : Int) = z := ⟨_, rfl⟩
   have hz2 : z > 1000000000000000 := by omega
   simp only [hz] at hW
   have HW := Lib.hid hW
   clear hW hl h1 hz h2
   go_enter Tryz.func144, Tryz.ntmps144
   go_wp2_with (go_at_call 192; refine HW.out.mono ?_; rintro e w1 ⟨rfl, rfl⟩)
   go_ret2
   exact ⟨rfl, rfl⟩
  ·rw [wordV, wordI, if_neg h2, if_neg h2] at hW
   have HW := Lib.hid hW
   clear hW hl h1 h2
   go_enter Tryz.func144, Tryz.ntmps144
   go_wp2_with (go_at_call 192; refine HW.out.mono ?_; rintro e w1 ⟨rfl, rfl⟩)
   go_ret2
   exact ⟨rfl, rfl⟩
end Go.Proofs.YthcbkhfmdginiaaGreat

namespace Go.Proofs.YthcbkhfmdginiaaGreat
open Go Go.RowKit Go.Shelf Limb

def inM (n : Int) : Bool := decide (0 ≤ n ∧ n ≤ 1000000000000000)
theorem inM_iff {n : Int} : inM n = inB2 n 0 1000000000000000 := by
 rw [inM, inB2, Bool.eq_iff_iff]; simp
theorem allB_in {a b c : Int} : allB [a, b, c] = (inM a && inM b && inM c) := by simp [allB, inM_iff, Bool.and_assoc]
set_option maxHeartbeats 1000000 in
theorem r17Share (a b c : Int) (w : World) :
  Calls Tryz.prog 75 #[.int .i64 a, .int .i64 b, .int .i64 c] w fun e w' => e = .returned (.tuple #[.int .i64 (shareV a b c), .int .i64 (shareI a b c)]) ∧ Below w.heap.size w w' := by
 have hIn : ∀ n W, Calls Tryz.prog 142 #[.int .i64 n] W fun e w' => e = .returned (.bool (inM n)) ∧ w' = W := fun n W => r17in n W
 have hA := fun W => hIn a W
 have hB := fun W => hIn b W
 have hC := fun W => hIn c W
 have hall := allB_in (a := a) (b := b) (c := c)
 unfold shareV
 cases e1 : inM a with
 | false =>
  have hi : shareI a b c = 2 := by rw [shareI, if_neg (by rw [hall, e1]; simp)]
  rw [hi, if_neg (by omega)]
  rw [e1] at hA
  have HA := Lib.hid hA
  clear hA hB hC hIn hall hi e1
  go_enter Tryz.func75, Tryz.ntmps75
  go_wp2_with (go_at_call 142; refine (HA.out _).mono ?_; rintro e w1 ⟨rfl, rfl⟩)
  go_ret2
  exact ⟨rfl, Below.refl _ _⟩
 | true =>
  rw [e1] at hA
  have st0 := Lib.hid True.intro
  cases e2 : inM b with
  | false =>
   have hi : shareI a b c = 2 := by rw [shareI, if_neg (by rw [hall, e1, e2]; simp)]
   rw [hi, if_neg (by omega)]
   rw [e2] at hB
   have HA := Lib.hid hA; have HB := Lib.hid hB
   clear hA hB hC hIn hall hi e1 e2
   go_enter Tryz.func75, Tryz.ntmps75
   go_wp2_with (first
    | (have := st1; go_at_call 142; clear st1; refine (HB.out _).mono ?_; rintro e w2 ⟨rfl, e1⟩; obtain rfl := e1.symm; clear this e1)
    | (have := st0; go_at_call 142; clear st0; refine (HA.out _).mono ?_; rintro e w1 ⟨rfl, e1⟩; obtain rfl := e1.symm; clear this e1; have st1 := Lib.hid True.intro))
   go_ret2
   exact ⟨rfl, Below.refl _ _⟩
  | true =>
   rw [e2] at hB
   cases e3 : inM c with
   | false =>
    have hi : shareI a b c = 2 := by rw [shareI, if_neg (by rw [hall, e1, e2, e3]; simp)]
    rw [hi, if_neg (by omega)]
    rw [e3] at hC
    have HA := Lib.hid hA; have HB := Lib.hid hB; have HC := Lib.hid hC
    clear hA hB hC hIn hall hi e1 e2 e3
    go_enter Tryz.func75, Tryz.ntmps75
    go_wp2_with (first
     | (have := st2; go_at_call 142; clear st2; refine (HC.out _).mono ?_; rintro e w3 ⟨rfl, e1⟩; obtain rfl := e1.symm; clear this e1)
     | (have := st1; go_at_call 142; clear st1; refine (HB.out _).mono ?_; rintro e w2 ⟨rfl, e1⟩; obtain rfl := e1.symm; clear this e1; have st2 := Lib.hid True.intro)
     | (have := st0; go_at_call 142; clear st0; refine (HA.out _).mono ?_; rintro e w1 ⟨rfl, e1⟩; obtain rfl := e1.symm; clear this e1; have st1 := Lib.hid True.intro))
    go_ret2
    exact ⟨rfl, Below.refl _ _⟩
   | true =>
    rw [e3] at hC
    have h3 : allB [a, b, c] = true := by rw [hall, e1, e2, e3]; rfl
    obtain ⟨⟨a0, a1⟩, ⟨b0, b1⟩, c0, c1⟩ := allB3 h3
    by_cases hc0 : c = 0
    ·have hi : shareI a b c = 40 := by rw [shareI, if_pos h3, if_pos hc0]
     rw [hi, if_neg (by omega)]
     subst hc0
     have HA := Lib.hid hA; have HB := Lib.hid hB; have HC := Lib.hid hC
     clear hA hB hC hIn hall hi e1 e2 e3 h3
     go_enter Tryz.func75, Tryz.ntmps75
     go_wp2_with (first
      | (have := st2; go_at_call 142; clear st2; refine (HC.out _).mono ?_; rintro e w3 ⟨rfl, e1⟩; obtain rfl := e1.symm; clear this e1)
      | (have := st1; go_at_call 142; clear st1; refine (HB.out _).mono ?_; rintro e w2 ⟨rfl, e1⟩; obtain rfl := e1.symm; clear this e1; have st2 := Lib.hid True.intro)
      | (have := st0; go_at_call 142; clear st0; refine (HA.out _).mono ?_; rintro e w1 ⟨rfl, e1⟩; obtain rfl := e1.symm; clear this e1; have st1 := Lib.hid True.intro))
     go_ret2
     exact ⟨rfl, Below.refl _ _⟩
    ·obtain ⟨A, rfl⟩ : ∃ n : Nat, a = n := ⟨a.toNat, by omega⟩
     obtain ⟨B, rfl⟩ : ∃ n : Nat, b = n := ⟨b.toNat, by omega⟩
     obtain ⟨C, rfl⟩ : ∃ n : Nat, c = n := ⟨c.toNat, by omega⟩
     have hdiv : (A : Int) * (B : Int) / (C : Int) = ((A * B / C : Nat) : Int) := by simp
     have hab : A * B ≤ 1000000000000000 * 1000000000000000 := Nat.mul_le_mul (by omega) (by omega)
     have hq : A * B / C ≤ A * B := Nat.div_le_self _ _
     have hL := lim_len5 (n := A * B / C) (by omega)
     have hD := fun W => r17divided A B C W (by omega) (by omega) (by omega) (by omega)
     have hT := fun (W : World) (v : Value) (hv : NumAt W v (A * B / C)) => r17told v (A * B / C) W hv (by omega)
     have hsi : shareI A B C = toldI (A * B / C) := by
      rw [shareI, if_pos h3, if_neg hc0, hdiv, toldI]
      by_cases h : A * B / C ≤ 1000000000000000
      ·rw [if_pos h, if_pos (by omega)]
      ·rw [if_neg h, if_neg (by omega)]
     have hsv : (if shareI A B C = 0 then (A : Int) * B / C else 0) = toldV (A * B / C) := by
      rw [hsi, hdiv, toldI, toldV]
      by_cases h : A * B / C ≤ 1000000000000000
      ·simp only [if_pos h, if_pos]
      ·simp only [if_neg h]; rfl
     rw [hsv, hsi]
     obtain ⟨Q, hQ⟩ : ∃ Q, A * B / C = Q := ⟨_, rfl⟩
     simp only [hQ] at hD hT ⊢
     obtain ⟨l, hl⟩ : ∃ l, (lim Q).length = l := ⟨_, rfl⟩
     obtain ⟨bb, hbb⟩ : ∃ b, decide (0 < (lim (A * B % C)).length) = b := ⟨_, rfl⟩
     obtain ⟨tv, htv⟩ : ∃ b, toldV Q = b := ⟨_, rfl⟩
     obtain ⟨ti, hti⟩ : ∃ b, toldI Q = b := ⟨_, rfl⟩
     simp only [hl, hbb] at hD
     simp only [htv, hti] at hT ⊢
     have hcb : ((C : Int) == 0) = false := beq_eq_false_iff_ne.2 hc0
     have hcn : ¬ C = 0 := by omega
     have HA := Lib.hid hA; have HB := Lib.hid hB; have HC := Lib.hid hC; have HD := Lib.hid hD; have HT := Lib.hid hT
     clear hA hB hC hIn hall e1 e2 e3 h3 hdiv hab hq hL hD hT hsi hsv hQ hl hbb htv hti hc0
     go_enter Tryz.func75, Tryz.ntmps75
     go_wp2_with (first
      | (have := st2; go_at_call 142; clear st2; refine (HC.out _).mono ?_; rintro e w3 ⟨rfl, e1⟩; obtain rfl := e1.symm; clear this e1)
      | (have := st1; go_at_call 142; clear st1; refine (HB.out _).mono ?_; rintro e w2 ⟨rfl, e1⟩; obtain rfl := e1.symm; clear this e1; have st2 := Lib.hid True.intro)
      | (have := st0; go_at_call 142; clear st0; refine (HA.out _).mono ?_; rintro e w1 ⟨rfl, e1⟩; obtain rfl := e1.symm; clear this e1; have st1 := Lib.hid True.intro)
      | (go_at_call 143; refine (HD.out _).mono ?_; rintro e w4 ⟨x4, y4, rfl, k4, hb4⟩; have K4 := Lib.hid k4; have B4 := Lib.hid hb4; clear k4 hb4)
      | (go_at_call 144; refine (HT.out _ _ K4.out).mono ?_; rintro e w5 ⟨rfl, e5⟩; obtain rfl := e5.symm))
     go_ret2
     exact ⟨rfl, B4.out⟩
theorem passI_if {value n most : Int} : passI value n most = if value < 0 then 2 else if 1000000000 < value then 2 else if n < 1 then 2 else if 1000000000000000 < n then 2 else if most < 0 then 2 else if n < most then 2 else 0 := by
 unfold passI
 repeat' split
 all_goals first | rfl | omega
set_option maxHeartbeats 1000000 in
theorem r18Pass (value n most : Int) (w : World) :
  Calls Tryz.prog 21 #[.int .i64 value, .int .i64 n, .int .i64 most] w fun e w' => e = .returned (.tuple #[.int .i64 (passV value n most), .int .i64 (passI value n most)]) ∧ Below w.heap.size w w' := by
 have hif := passI_if (value := value) (n := n) (most := most)
 unfold passV
 by_cases h1 : value < 0
 ·rw [hif, if_pos h1, if_neg (by omega)]
  clear hif
  go_enter Tryz.func21, Tryz.ntmps21
  go_wp2
  go_ret2
  exact ⟨rfl, Below.refl _ _⟩
 ·by_cases h2 : value > 1000000000
  ·rw [hif, if_neg h1, if_pos h2, if_neg (by omega)]
   clear hif
   go_enter Tryz.func21, Tryz.ntmps21
   go_wp2
   go_ret2
   exact ⟨rfl, Below.refl _ _⟩
  ·by_cases h3 : n < 1
   ·rw [hif, if_neg h1, if_neg h2, if_pos h3, if_neg (by omega)]
    clear hif
    go_enter Tryz.func21, Tryz.ntmps21
    go_wp2
    go_ret2
    exact ⟨rfl, Below.refl _ _⟩
   ·by_cases h4 : n > 1000000000000000
    ·rw [hif, if_neg h1, if_neg h2, if_neg h3, if_pos h4, if_neg (by omega)]
     clear hif
     go_enter Tryz.func21, Tryz.ntmps21
     go_wp2
     go_ret2
     exact ⟨rfl, Below.refl _ _⟩
    ·by_cases h5 : most < 0
     ·rw [hif, if_neg h1, if_neg h2, if_neg h3, if_neg h4, if_pos h5, if_neg (by omega)]
      clear hif
      go_enter Tryz.func21, Tryz.ntmps21
      go_wp2
      go_ret2
      exact ⟨rfl, Below.refl _ _⟩
     ·by_cases h6 : most > n
      ·rw [hif, if_neg h1, if_neg h2, if_neg h3, if_neg h4, if_neg h5, if_pos h6, if_neg (by omega)]
       clear hif
       go_enter Tryz.func21, Tryz.ntmps21
       go_wp2
       go_ret2
       exact ⟨rfl, Below.refl _ _⟩
      ·have h0 : passI value n most = 0 := by rw [hif, if_neg h1, if_neg h2, if_neg h3, if_neg h4, if_neg h5, if_neg h6]
       obtain ⟨s1, s2⟩ := share_pass (value := value) (n := n) (most := most) (by omega) (by omega)
       have hS := fun W => r17Share value (n - most) n W
       rw [s2 h0, s1.2 h0] at hS
       rw [h0, if_pos rfl]
       have hw1 : IntKind.i64.wrap (n - most) = n - most := by rw [IntKind.wrap_i64]; omega
       obtain ⟨x, hx⟩ : ∃ x, value * (n - most) / n = x := ⟨_, rfl⟩
       simp only [hx] at hS ⊢
       have HS := Lib.hid hS
       clear hif s1 s2 h0 hS hx
       go_enter Tryz.func21, Tryz.ntmps21
       go_wp2_with (go_at_call 75; refine (HS.out _).mono ?_; rintro e w1 ⟨rfl, hb⟩)
       go_ret2
       exact ⟨rfl, hb⟩
theorem r17May (votes seats : Int) (w : World) : Calls Tryz.prog 44 #[.int .i64 votes, .int .i64 seats] w fun e w' => e = .returned (.bool (decide (droopI votes seats = 0))) ∧ w' = w := by
 by_cases h1 : 0 ≤ votes
 ·have g1 : votes ≥ 0 := h1
  by_cases h2 : votes ≤ 1000000
  ·by_cases h3 : 1 ≤ seats
   ·have g3 : seats ≥ 1 := h3
    by_cases h4 : seats ≤ 10
    ·rw [droopI, if_pos ⟨⟨h1, h2⟩, h3, h4⟩]
     go_enter Tryz.func44, Tryz.ntmps44
     go_wp2
     go_ret
     exact ⟨rfl, rfl⟩
    ·rw [droopI, if_neg (fun h => h4 h.2.2)]
     go_enter Tryz.func44, Tryz.ntmps44
     go_wp2
     go_ret
     exact ⟨rfl, rfl⟩
   ·rw [droopI, if_neg (fun h => h3 h.2.1)]
    have g3 : ¬ seats ≥ 1 := h3
    go_enter Tryz.func44, Tryz.ntmps44
    go_wp2
    go_ret
    exact ⟨rfl, rfl⟩
  ·rw [droopI, if_neg (fun h => h2 h.1.2)]
   go_enter Tryz.func44, Tryz.ntmps44
   go_wp2
   go_ret
   exact ⟨rfl, rfl⟩
 ·rw [droopI, if_neg (fun h => h1 h.1.1)]
  have g1 : ¬ votes ≥ 0 := h1
  go_enter Tryz.func44, Tryz.ntmps44
  go_wp2
  go_ret
  exact ⟨rfl, rfl⟩
end Go.Proofs.YthcbkhfmdginiaaGreat

namespace Go.Proofs.YthcbkhfmdginiaaGreat
open Go Go.RowKit Go.Shelf Limb

theorem r17Droop (votes seats : Int) (w : World) : Calls Tryz.prog 73 #[.int .i64 votes, .int .i64 seats] w fun e w' => e = .returned (.tuple #[.int .i64 (droopV votes seats), .int .i64 (droopI votes seats)]) ∧ w' = w := by
 have hM := fun W => r17May votes seats W
 unfold droopV
 by_cases h0 : droopI votes seats = 0
 ·rw [decide_eq_true h0] at hM
  rw [h0, if_pos rfl]
  have hh := h0
  unfold droopI at hh
  split at hh
  ·rename_i hc
   obtain ⟨⟨v0, v1⟩, s0, s1⟩ := hc
   obtain ⟨V, rfl⟩ : ∃ n : Nat, votes = n := ⟨votes.toNat, by omega⟩
   obtain ⟨T, rfl⟩ : ∃ n : Nat, seats = n := ⟨seats.toNat, by omega⟩
   have w1 := i64_small15 (x := (T : Int) + 1) (by omega) (by omega)
   have hq0 : 0 ≤ (V : Int) / ((T : Int) + 1) := Int.ediv_nonneg (by omega) (by omega)
   have hq1 : (V : Int) / ((T : Int) + 1) ≤ V := Int.ediv_le_self _ (by omega)
   have ht : (V : Int).tdiv ((T : Int) + 1) = (V : Int) / ((T : Int) + 1) := Int.tdiv_eq_ediv_of_nonneg (by omega)
   rw [droop]
   obtain ⟨Q, hQ⟩ : ∃ Q, (V : Int) / ((T : Int) + 1) = Q := ⟨_, rfl⟩
   rw [hQ] at hq0 hq1 ht ⊢
   have w2 := i64_small15 (x := Q) hq0 (by omega)
   have w3 := i64_small15 (x := Q + 1) (by omega) (by omega)
   have hz : ((T : Int) + 1 == 0) = false := beq_eq_false_iff_ne.2 (by omega)
   have hz2 : ¬ (T : Int) + 1 = 0 := by omega
   have hz3 : ¬ (T : Int) + 1 = -1 := by omega
   have HM := Lib.hid hM
   clear hM h0 hh
   go_enter Tryz.func73, Tryz.ntmps73
   go_wp2_with (go_at_call 44; refine (HM.out _).mono ?_; rintro e w1 ⟨rfl, e1⟩; obtain rfl := e1.symm; clear e1)
   go_ret2
   exact ⟨rfl, rfl⟩
  ·cases hh
 ·have h2 : droopI votes seats = 2 := by
   unfold droopI at h0 ⊢
   split
   ·rename_i hc; rw [if_pos hc] at h0; exact absurd rfl h0
   ·rfl
  rw [decide_eq_false h0] at hM
  rw [h2, if_neg (by omega)]
  have HM := Lib.hid hM
  clear hM h0 h2
  go_enter Tryz.func73, Tryz.ntmps73
  go_wp2_with (go_at_call 44; refine (HM.out _).mono ?_; rintro e w1 ⟨rfl, e1⟩; obtain rfl := e1.symm; clear e1)
  go_ret2
  exact ⟨rfl, rfl⟩
set_option maxHeartbeats 1000000 in
theorem r09Marked (S : Nat → Prop) (v : Value) (p : Prof) (w : World) (h : VProf S w v p) :
  Calls Tryz.prog 72 #[v] w fun e w' => e = .returned (.tuple #[.int .i64 (markV p), .int .i64 (chkP p)]) ∧ Below w.heap.size w w' := by
 have h1 := h
 obtain ⟨a, m, c, rfl⟩ := h.agg
 have hb0 := below_new w (.cells #[.int .i64 p.cands, .int .u8 p.kind, .slice a m c] 24)
 have hbx := box_new w (.cells #[.int .i64 p.cands, .int .u8 p.kind, .slice a m c] 24)
 have hC := r09Check S _ p _ (h1.same (.of_below hb0))
 have hR := fun W (hW : Below w.heap.size w W) => (h1.same (.of_below hW)).rws
 have hm := RSl.len (hR w (Below.refl _ _))
 have hk := rows_many (p := p)
 unfold markV
 obtain ⟨cc, hcc⟩ : ∃ c, p.cands = c := ⟨_, rfl⟩
 obtain ⟨kk, hkk⟩ : ∃ c, p.kind = c := ⟨_, rfl⟩
 obtain ⟨rows, hrows⟩ : ∃ r, p.rows = r := ⟨_, rfl⟩
 obtain ⟨q, hq⟩ : ∃ q, chkP p = q := ⟨_, rfl⟩
 have h64 : chkP p = 0 → p.rows.length ≤ 64 := fun h => (chkP_zero.1 h).rows
 rw [hq] at hk hC h64
 rw [hrows] at hR hm hk h64
 rw [hcc, hkk] at hC hb0 hbx
 rw [hcc, hkk, hrows, hq]
 have HC := Lib.hid hC; have Hbx := Lib.hid hbx; have HR := Lib.hid hR
 by_cases hq0 : q = 0
 ·subst hq0
  obtain ⟨k1, k2⟩ := hk rfl
  have hm64 : m ≤ 64 := by have := h64 rfl; omega
  have hb : ∀ k, 0 ≤ markS (rows.take k) ∧ markS (rows.take k) ≤ 1000000 := fun k => by
   obtain ⟨b1, b2⟩ := markS_bound (rows := rows.take k) fun r hr => k1 r (List.mem_of_mem_take hr)
   have b3 : sumR (rows.take k) ≤ sumR rows := by
    conv => rhs; rw [← List.take_append_drop k rows]
    have b4 := markS_bound (rows := rows.drop k) fun r hr => k1 r (List.mem_of_mem_drop hr)
    have b5 : sumR (rows.take k ++ rows.drop k) = sumR (rows.take k) + sumR (rows.drop k) := by rw [sumR, sumR, sumR, List.map_append, List.sum_append]
    omega
   exact ⟨b1, by omega⟩
  have Hb := Lib.hid hb; have Hm := Lib.hid hm
  rw [if_pos rfl]
  clear hC hbx h h1 hcc hkk hq hk hR hrows k1 k2 hb h64 hm
  go_enter Tryz.func72, Tryz.ntmps72
  go_wp2_with (go_at_call 71; refine HC.out.mono ?_; rintro e w1 ⟨rfl, hbN⟩; have HbN := Lib.hid hbN; clear hbN)
  go_loopw [5, 6] (fun s i wr => ∃ k : Nat, k ≤ m ∧ i = .int .i64 k ∧ s = .int .i64 (markS (rows.take k)) ∧ wr = w1) (fun _ i _ => m - (intOf i).toNat)
  case atStart => exact ⟨0, Nat.zero_le _, rfl, rfl, rfl⟩
  case round =>
   obtain ⟨k, hk, rfl, rfl, rfl⟩ := hrel
   obtain ⟨gc0, gc1, gc2, gcl⟩ := box3 Hbx.out HbN.out
   by_cases hlt : k < m
   ·have hlr : k < rows.length := by rw [← Hm.out]; exact hlt
    obtain ⟨rb, roff, rc', rd, rfl, -, rbl, rcl, rdl, hx⟩ := RSl.at2 (HR.out wr (bt hb0 HbN.out)) k hlr
    obtain ⟨mb, mc, rfl, rfl, hml7, -, -⟩ := hx.open
    have hst := markS_take hlr
    have hb1 := Hb.out k
    have hb2 := Hb.out (k + 1)
    rw [hst] at hb2
    obtain ⟨ml, hml⟩ : ∃ n, rows[k].marks.length = n := ⟨_, rfl⟩
    obtain ⟨mn, hmn⟩ : ∃ n, rows[k].many = n := ⟨_, rfl⟩
    obtain ⟨s, hs⟩ : ∃ n, markS (rows.take k) = n := ⟨_, rfl⟩
    rw [hml] at rcl hml7
    rw [hmn] at rdl hst hb2
    rw [hs] at hst hb1 hb2 ⊢
    by_cases h0 : rows[k].marks = []
    ·obtain rfl : ml = 0 := by rw [← hml, h0]; rfl
     rw [if_pos h0, Int.add_zero] at hst
     have Hst := Lib.hid hst
     clear hst hb1 hb2 hx hlr hml hmn hs h0
     go_wp2
     exact ⟨⟨k + 1, by omega, by go_num, by rw [Hst.out], trivial⟩, by simp [intOf]; omega⟩
    ·have hml0 : 0 < ml := by rw [← hml]; exact List.length_pos_iff.2 h0
     rw [if_neg h0] at hst hb2
     have hw1 : IntKind.i64.wrap (s + mn) = s + mn := by rw [IntKind.wrap_i64]; omega
     have Hst := Lib.hid hst
     clear hst hb1 hb2 hx hlr hml hmn hs h0
     go_wp2
     exact ⟨⟨k + 1, by omega, by go_num, by rw [Hst.out], trivial⟩, by simp [intOf]; omega⟩
   ·have hkm : k = m := by omega
    have hfin : markS (rows.take k) = markS rows := by rw [List.take_of_length_le (by rw [← Hm.out]; omega)]
    rw [hfin]
    clear hfin
    go_wp2
    go_ret2
    exact ⟨rfl, bt hb0 HbN.out⟩
 ·have hne : (q != 0) = true := by simpa using hq0
  rw [if_neg hq0]
  clear hC hbx h h1 hcc hkk hq hk hR hrows hq0 h64 hm
  go_enter Tryz.func72, Tryz.ntmps72
  go_wp2_with (go_at_call 71; refine HC.out.mono ?_; rintro e w1 ⟨rfl, hbN⟩)
  go_ret2
  exact ⟨rfl, bt hb0 hbN⟩
set_option maxHeartbeats 1000000 in
theorem r18Quota (S : Nat → Prop) (v : Value) (p : Prof) (seats : Int) (w : World) (h : VProf S w v p) :
  Calls Tryz.prog 19 #[v, .int .i64 seats] w fun e w' => e = .returned (.tuple #[.int .i64 (quotaV p seats), .int .i64 (quotaI p seats)]) ∧ Below w.heap.size w w' := by
 have h0 := h
 obtain ⟨a, cap, rfl, -, -, -⟩ := h
 have hb0 := below_new w (.cells #[.int .i64 p.cands, .int .u8 p.kind, .slice a p.rows.length cap] 24)
 have hbx := box_new w (.cells #[.int .i64 p.cands, .int .u8 p.kind, .slice a p.rows.length cap] 24)
 have hC := r09Check S _ p _ (h0.same (.of_below hb0))
 have hM := fun W (hW : Below w.heap.size w W) => r09Marked S _ p W (h0.same (.of_below hW))
 have hz : chkP p = 0 → markV p = markS p.rows := fun h => by rw [markV, if_pos h]
 unfold quotaI quotaV
 obtain ⟨n, hn⟩ : ∃ n, p.rows.length = n := ⟨_, rfl⟩
 obtain ⟨cc, hcc⟩ : ∃ c, p.cands = c := ⟨_, rfl⟩
 obtain ⟨kk, hkk⟩ : ∃ c, p.kind = c := ⟨_, rfl⟩
 obtain ⟨q, hq⟩ : ∃ q, chkP p = q := ⟨_, rfl⟩
 rw [hq] at hC hz hM
 rw [hn, hcc, hkk] at hC hM hb0 hbx
 rw [hn, hcc, hkk, hq]
 have HC := Lib.hid hC; have Hbx := Lib.hid hbx
 by_cases hq0 : q = 0
 ·subst hq0
  rw [hz rfl] at hM
  have HM := Lib.hid hM
  clear hC hM hbx h0 hn hcc hkk hq hz
  by_cases hk : kk = 1
  ·subst hk
   rw [if_neg (by simp), if_neg (by simp)]
   obtain ⟨V, hV⟩ : ∃ V, markS p.rows = V := ⟨_, rfl⟩
   rw [hV] at HM ⊢
   have hD := fun W => r17Droop V seats W
   have HD := Lib.hid hD
   clear hD hV
   go_enter Tryz.func19, Tryz.ntmps19
   go_wp2_with (first
    | (go_at_call 71; refine HC.out.mono ?_; rintro e w1 ⟨rfl, hbN⟩; have hq1 := hb0.trans (hbN.mono (by simp)); obtain ⟨gc0, gc1, gc2, gcl⟩ := box3 Hbx.out hbN; clear hbN)
    | (go_at_call 72; refine (HM.out _ hq1).mono ?_; rintro e w2 ⟨rfl, hb2⟩; replace hq1 := hq1.trans (hb2.mono hq1.size))
    | (go_at_call 73; refine (HD.out _).mono ?_; rintro e w3 ⟨rfl, e3⟩; obtain rfl := e3.symm))
   go_ret2
   exact ⟨rfl, hq1⟩
  ·rw [if_pos (.inr hk), if_pos (.inr hk)]
   have hkq : (kk != 1) = true := by simpa using hk
   clear hk
   go_enter Tryz.func19, Tryz.ntmps19
   go_wp2_with (go_at_call 71; refine HC.out.mono ?_; rintro e w1 ⟨rfl, hbN⟩; have hq1 := hb0.trans (hbN.mono (by simp)); obtain ⟨gc0, gc1, gc2, gcl⟩ := box3 Hbx.out hbN; clear hbN)
   go_ret2
   exact ⟨rfl, hq1⟩
 ·rw [if_pos (.inl hq0), if_pos (.inl hq0)]
  have hne : (q != 0) = true := by simpa using hq0
  clear hC hM hbx h0 hn hcc hkk hq hz hq0
  go_enter Tryz.func19, Tryz.ntmps19
  go_wp2_with (go_at_call 71; refine HC.out.mono ?_; rintro e w1 ⟨rfl, hbN⟩; have hq1 := hb0.trans (hbN.mono (by simp)); obtain ⟨gc0, gc1, gc2, gcl⟩ := box3 Hbx.out hbN; clear hbN)
  go_ret2
  exact ⟨rfl, hq1⟩
theorem nextI_take {inn m : List Int} {k : Nat} (hk : k < m.length) (h1 : nextI inn (m.take k) = none) (h2 : hasI inn m[k] = false) : nextI inn (m.take (k + 1)) = none := find_none_snoc hk h1 h2
theorem nextI_at {inn m : List Int} {k : Nat} (hk : k < m.length) (h1 : nextI inn (m.take k) = none) (h2 : hasI inn m[k] = true) : nextI inn m = some m[k] := find_some_at hk h1 h2
set_option maxHeartbeats 400000 in
theorem r18Next (S T : Nat → Prop) (u v : Value) (m inn : List Int) (w : World) (h : RInts S w u m) (hv : RInts T w v inn) :
  Calls Tryz.prog 68 #[u, v] w fun e w' => e = .returned (.int .i64 ((nextI inn m).getD (-1))) ∧ w = w' := by
 obtain ⟨a, cap, rfl, h1, h2⟩ := RSl.shape h
 have hI := fun n => r11In T v inn n w hv
 have HI := Lib.hid hI
 clear hI hv
 go_enter Tryz.func68, Tryz.ntmps68
 go_wp2
 go_loop [5] (fun i => ∃ k : Nat, k ≤ m.length ∧ i = .int .i64 k ∧ Hid (nextI inn (m.take k) = none)) (fun i => m.length - (intOf i).toNat)
 case atStart => exact ⟨0, Nat.zero_le _, rfl, Lib.hid rfl⟩
 case round =>
  obtain ⟨k, hk, rfl, hg⟩ := hrel
  by_cases hlt : k < m.length
  ·obtain ⟨b, off, c, rfl, hS, hbw, hc, hx⟩ := RSl.at1 h k hlt
   obtain ⟨rfl, -⟩ := hx.open
   have hin := HI.out m[k]
   cases he : hasI inn m[k]
   ·rw [he] at hin
    have He := Lib.hid he; have Hin := Lib.hid hin; clear he hin
    go_wp2_with (go_at_call 39; refine Hin.out.mono ?_; rintro e w1 ⟨rfl, rfl⟩)
    go_round
    case rel => exact ⟨k + 1, by omega, by go_num, Lib.hid (nextI_take hlt hg.out He.out)⟩
    case measure => simp [intOf]; omega
   ·rw [he] at hin
    have He := Lib.hid he; have Hin := Lib.hid hin; clear he hin
    go_wp2_with (go_at_call 39; refine Hin.out.mono ?_; rintro e w1 ⟨rfl, rfl⟩)
    go_ret
    exact ⟨ret_int (by rw [nextI_at hlt hg.out He.out]; rfl), rfl⟩
  ·go_wp2
   go_ret
   rw [List.take_of_length_le (by omega)] at hg
   exact ⟨ret_int (by rw [hg.out]; rfl), rfl⟩
end Go.Proofs.YthcbkhfmdginiaaGreat

namespace Go.Proofs.YthcbkhfmdginiaaGreat
open Go Go.RowKit Go.Shelf Limb

set_option maxHeartbeats 1000000 in
theorem r11Least (S T : Nat → Prop) (u v : Value) (among has : List Int) (w : World) (h : RInts S w u among) (hv : RInts T w v has) (hl : has.length ≤ 1000) (hb : ∀ x ∈ has, -4000000000000000000 ≤ x ∧ x ≤ 4000000000000000000) (hin : ∀ x ∈ among, 0 ≤ x ∧ x < has.length) :
  Calls Tryz.prog 69 #[u, v] w (GivesI (alikeL among (has.map fun x => -x)) w) := by
 obtain ⟨a, cap, rfl, h1, h2⟩ := RSl.shape h
 obtain ⟨a2, cap2, rfl, h12, h22⟩ := RSl.shape hv
 have hH := fun W (hW : Below w.heap.size w W) => hv.same (.of_below hW)
 have hA := fun W (hW : Below w.heap.size w W) (x : Value) (hx : RInts Any W x (has.map fun x => -x)) => r11Alike S Any _ x among (has.map fun x => -x) W (h.same (.of_below hW)) hx (by rw [List.length_map]; omega) (by rw [List.length_map]; exact hin)
 obtain ⟨C, hC⟩ : ∃ C, has.length = C := ⟨_, rfl⟩
 obtain ⟨m, hm⟩ : ∃ m, among.length = m := ⟨_, rfl⟩
 have hmk := run_make_row' (P := Tryz.prog) 25 3 (.int .i64 0) 8 Tryz.underlying25 Tryz.infoInt rfl .i64 .i64 C (by omega) (by omega)
 rw [hC] at hH hl
 rw [hm] at hA
 rw [hC, hm]
 have HH := Lib.hid hH; have HA := Lib.hid hA; have Hb := Lib.hid hb; have HC := Lib.hid hC
 clear hH hA hb hC hm h hv h1 h2 h12 h22 hin
 go_enter Tryz.func69, Tryz.ntmps69
 go_wp2
 clear hmk
 go_loopw [6] (fun i wr => ∃ k : Nat, k ≤ C ∧ i = .int .i64 k ∧ Hid (Arr .i64 wr w.heap.size 3 (fl C fun x => if x < k then - gI has x else 0)) ∧ Hid (Below w.heap.size w wr)) (fun i _ => C - (intOf i).toNat)
 case atStart => exact ⟨0, Nat.zero_le _, rfl, Lib.hid (by have := Arr.madeN (k := .i64) w C 3; rw [← fl_zero] at this; simpa using this), Lib.hid (below_new _ _)⟩
 case round =>
  obtain ⟨k, hk, rfl, hA, hbr⟩ := hrel
  by_cases hlt : k < C
  ·have hlr : k < has.length := by rw [HC.out]; exact hlt
   obtain ⟨b, off, c, rfl, -, hbw, hc, hx⟩ := RSl.at1 (HH.out wr hbr.out) k hlr
   obtain ⟨rfl, -⟩ := hx.open
   have hxb := Hb.out _ (List.getElem_mem hlr)
   have hgk := gI_at hlr
   obtain ⟨y, hy⟩ : ∃ y, has[k] = y := ⟨_, rfl⟩
   rw [hy] at hc hxb hgk
   have hw1 : IntKind.i64.wrap (-y) = -y := by rw [IntKind.wrap_i64]; omega
   have hst : fl C (fun x => if x < k + 1 then - gI has x else 0) = (fl C fun x => if x < k then - gI has x else 0).set k (-y) := by
    rw [fl_set]
    refine fl_congr fun x _ => ?_
    by_cases e : x = k
    ·subst e; rw [if_pos (by omega), if_pos rfl, hgk]
    ·rw [if_neg e]
     by_cases e2 : x < k
     ·rw [if_pos (by omega), if_pos e2]
     ·rw [if_neg (by omega), if_neg e2]
   have hfz := hA.out.frozen k
   have hlA := hA.out.lt
   have hAc := hA.out.cell (i := k) (by rw [fl_length]; exact hlt)
   rw [fl_get, if_neg (by omega)] at hAc
   have Hst := Lib.hid hst
   clear hst hx hlr hy hxb hgk
   go_wp2
   exact ⟨⟨k + 1, by omega, by go_num, Lib.hid (by rw [Hst.out]; exact Arr.set hA.out _ _), Lib.hid (hbr.out.setCell (p := ⟨w.heap.size, k, none⟩) (Nat.le_refl _) _)⟩, by simp [intOf]; omega⟩
  ·have hkC : k = C := by omega
   have hfin : (fl C fun x => if x < k then - gI has x else 0) = has.map fun x => -x := by
    apply List.ext_getElem (by rw [fl_length, List.length_map, HC.out])
    intro i i1 i2
    rw [fl_get, List.getElem_map, if_pos (by rw [fl_length] at i1; omega), gI_at (by rw [List.length_map] at i2; exact i2)]
   rw [hfin] at hA
   have hR := Arr.all hA.out (S := Any) trivial (n := C) (cap := C) (fun x hx => by
    obtain ⟨y, hy, rfl⟩ := List.mem_map.1 hx
    have := Hb.out y hy
    exact WalkArith.wf_i64 (by omega)) (by rw [List.length_map, HC.out]; omega) (by rw [List.length_map, HC.out]) (Nat.le_refl _)
   have hcall := HA.out wr hbr.out _ hR
   have Hcall := Lib.hid hcall
   clear hR hcall hfin hA
   go_wp2_with (go_at_call 67; refine Hcall.out.mono ?_; rintro e w1 ⟨x, rfl, ho, hb⟩; have Ho := Lib.hid ho; have Hb1 := Lib.hid hb; clear ho hb)
   go_ret
   exact ⟨_, rfl, Own.rebase Ho.out hbr.out.size, bt hbr.out Hb1.out⟩
end Go.Proofs.YthcbkhfmdginiaaGreat

namespace Go.Proofs.YthcbkhfmdginiaaGreat
open Go Go.RowKit Go.Shelf Limb

theorem marks_bound {rows : List Row} (h : ∀ r ∈ rows, 0 ≤ r.many) (hs : sumR rows ≤ 1000000) (k : Nat) : 0 ≤ markS (rows.take k) ∧ markS (rows.take k) ≤ 1000000 := by
 obtain ⟨b1, b2⟩ := markS_bound (rows := rows.take k) fun r hr => h r (List.mem_of_mem_take hr)
 have b3 : sumR (rows.take k) ≤ sumR rows := by
  conv => rhs; rw [← List.take_append_drop k rows]
  have b4 := markS_bound (rows := rows.drop k) fun r hr => h r (List.mem_of_mem_drop hr)
  have b5 : sumR (rows.take k ++ rows.drop k) = sumR (rows.take k) + sumR (rows.drop k) := by rw [sumR, sumR, sumR, List.map_append, List.sum_append]
  omega
 exact ⟨b1, by omega⟩
theorem next_nil {inn m : List Int} (h : m = []) : nextI inn m = none := by subst h; rfl
set_option maxRecDepth 100000 in
set_option maxHeartbeats 4000000 in
set_option linter.unusedSimpArgs false in
theorem r18Had (S T U V : Nat → Prop) (u v1 v2 v3 : Value) (p : Prof) (rv : RV) (inn el : List Int) (Q : Int) (C : Nat) (w : World) (hp : VProf S w u p) (hC : p.cands = (C : Int)) (hc : C ≤ 1000) (h1 : RInts T w v1 (rv.map Prod.snd)) (h2 : RInts U w v2 inn) (h3 : RInts V w v3 el)
  (hrv : rv.map Prod.fst = p.rows) (hV : GVal C rv) (hQ : 0 ≤ Q ∧ Q ≤ 1001000000000000) (hm : ∀ r ∈ p.rows, 0 ≤ r.many) (hs : sumR p.rows ≤ 1000000) (hap : ∀ x ∈ inn, x ∉ el) :
  Calls Tryz.prog 65 #[u, v1, v2, v3, .int .i64 Q] w fun e w' => e = .returned (.tuple #[.slice (some ⟨w.heap.size + 1, 0, none⟩) C C, .int .i64 (greL C Q (markS p.rows) rv inn el)]) ∧
   Arr .i64 w' (w.heap.size + 1) 3 (greH C Q rv inn el) ∧ Below w.heap.size w w' := by
 have hp1 := hp
 obtain ⟨a, m, c, rfl⟩ := hp.agg
 obtain ⟨W0, hW0⟩ : ∃ W0, W0 = w.alloc (.cells #[.int .i64 p.cands, .int .u8 p.kind, .slice a m c] 24) := ⟨_, rfl⟩
 have hb0 : Below w.heap.size w W0 := by rw [hW0]; exact below_new w _
 have hg0 : W0.heap[w.heap.size]? = some (.cells #[.int .i64 p.cands, .int .u8 p.kind, .slice a m c] 24 (0, 0)) := by rw [hW0]; exact box_new w _
 have hz0 : W0.heap.size = w.heap.size + 1 := by rw [hW0, World.size_alloc]
 obtain ⟨a1, c1, rfl, -, -⟩ := RSl.shape h1
 obtain ⟨a2, c2, rfl, -, -⟩ := RSl.shape h2
 obtain ⟨a3, c3, rfl, -, -⟩ := RSl.shape h3
 rw [List.length_map] at h1 ⊢
 have hlen : rv.length = p.rows.length := by rw [← hrv, List.length_map]
 have hRo := fun W (hW : Below W0.heap.size W0 W) => (hp1.same (.of_below (bt hb0 hW))).rws
 have hml := RSl.len (hRo W0 (Below.refl _ _))
 have hVa := fun W (hW : Below W0.heap.size W0 W) => h1.same (.of_below (bt hb0 hW))
 have hNx := fun (x : Value) (ms : List Int) W (hW : Below W0.heap.size W0 W) (hx : RInts Any W x ms) => r18Next Any U x _ ms inn W hx (h2.same (.of_below (bt hb0 hW)))
 have hIe := fun (n : Int) W (hW : Below W0.heap.size W0 W) => in_c V _ el n W (h3.same (.of_below (bt hb0 hW)))
 have hmb := marks_bound hm hs
 obtain ⟨rows, hrows⟩ : ∃ r, p.rows = r := ⟨_, rfl⟩
 obtain ⟨kk, hkk⟩ : ∃ x, p.kind = x := ⟨_, rfl⟩
 obtain ⟨l2, hl2⟩ : ∃ x, inn.length = x := ⟨_, rfl⟩
 obtain ⟨l3, hl3⟩ : ∃ x, el.length = x := ⟨_, rfl⟩
 rw [hrows] at hrv hlen hRo hml hmb
 rw [hC, hkk] at hW0 hg0
 rw [hC, hkk, hrows, hl2, hl3]
 rw [hl2] at hNx
 rw [hl3] at hIe
 have hrm : rv.length = m := by omega
 rw [hrm] at hVa ⊢
 have hn64 : m ≤ 64 := hrm ▸ hV.len
 have hmk := run_make_row' (P := Tryz.prog) 25 3 (.int .i64 0) 8 Tryz.underlying25 Tryz.infoInt rfl .i64 .i64 C (by omega) (by omega)
 have HRo := Lib.hid hRo; have HVa := Lib.hid hVa; have HNx := Lib.hid hNx; have HIe := Lib.hid hIe; have Hmb := Lib.hid hmb; have HV := Lib.hid hV; have HQ := Lib.hid hQ; have Hap := Lib.hid hap; have HW0 := Lib.hid hW0; have G0 := Lib.hid hg0; have Hb0 := Lib.hid hb0; have Hz0 := Lib.hid hz0; have Hrv := Lib.hid hrv; have Hrm := Lib.hid hrm; have Hml := Lib.hid hml
 clear hRo hVa hNx hIe hmb hV hap hW0 hg0 hb0 hz0 hrv hrm hml hlen hp hp1 h1 h2 h3 hC hm hs hrows hkk hl2 hl3
 go_enter Tryz.func65, Tryz.ntmps65
 go_upto_region 1 with fail
 rw [← HW0.out]
 obtain ⟨pa, pb, pc, pl⟩ := box3 G0.out (Below.refl _ _)
 go_wp2
 clear hmk pa pb pc pl
 rw [Hz0.out]
 have hmade : Arr .i64 (W0.alloc (.cells (madeCells #[.int .i64 0] C) 3)) (w.heap.size + 1) 3 (fl C fun x => cntG inn (rv.take 0) x) := by
  have := Arr.madeN (k := .i64) W0 C 3
  rw [← fl_zero, Hz0.out] at this
  simpa [cntG] using this
 have HM := Lib.hid hmade
 clear hmade
 go_loopw [13, 14] (fun vo i wr => ∃ k : Nat, k ≤ m ∧ i = .int .i64 k ∧ vo = .int .i64 (markS (rows.take k)) ∧ Hid (Arr .i64 wr (w.heap.size + 1) 3 (fl C fun x => cntG inn (rv.take k) x)) ∧ Hid (Below W0.heap.size W0 wr)) (fun _ i _ => m - (intOf i).toNat)
 case atStart => exact ⟨0, Nat.zero_le _, rfl, rfl, HM, Lib.hid (below_new W0 _)⟩
 case round =>
  clear HM
  obtain ⟨k, hk, rfl, rfl, hA, hbr⟩ := hrel
  obtain ⟨pa, pb, pc, pl⟩ := box3 G0.out hbr.out
  by_cases hlt : k < m
  ·have hlr : k < rows.length := by rw [← Hml.out]; exact hlt
   have hlv : k < rv.length := by rw [Hrm.out]; exact hlt
   have hrow : rv[k].1 = rows[k] := by
    have h := Hrv.out
    simp only [← h, List.getElem_map]
   obtain ⟨rb, roff, rc', rd, rfl, -, rbl, rcl, rdl, hx⟩ := RSl.at2 (HRo.out wr hbr.out) k hlr
   obtain ⟨mb, mc, rfl, rfl, hml7, -, hI⟩ := hx.open
   obtain ⟨vb, voff, vc, rfl, -, vbl, vcl, hvx⟩ := RSl.at1 (HVa.out wr hbr.out) k (by rw [List.length_map]; exact hlv)
   obtain ⟨rfl, -⟩ := hvx.open
   rw [List.getElem_map] at vcl
   have hml := HV.out.mul (List.getElem_mem hlv)
   have hct := fun x => cntG_take (inn := inn) hlv x
   have hcb := fun x => HV.out.cnt inn (k + 1) x
   have hcb0 := fun x => HV.out.cnt inn k x
   obtain ⟨m1, m2⟩ := HV.out.marks _ (List.getElem_mem hlv)
   rw [hrow] at hml m1 m2
   simp only [hrow] at hct
   have hnm := fun y (hy : nextI inn rows[k].marks = some y) => m2 y (nextI_mem hy).2
   have hst := markS_take hlr
   have hb1 := Hmb.out k
   have hb2 := Hmb.out (k + 1)
   rw [hst] at hb2
   have hnn := fun (h : rows[k].marks = []) => next_nil (inn := inn) h
   obtain ⟨ms, hms⟩ : ∃ l, rows[k].marks = l := ⟨_, rfl⟩
   obtain ⟨many, hme⟩ : ∃ m, rows[k].many = m := ⟨_, rfl⟩
   obtain ⟨val, hva⟩ : ∃ m, rv[k].2 = m := ⟨_, rfl⟩
   obtain ⟨ml, hmll⟩ : ∃ m, ms.length = m := ⟨_, rfl⟩
   obtain ⟨nx, hnx⟩ : ∃ y, nextI inn ms = y := ⟨_, rfl⟩
   obtain ⟨s, hss⟩ : ∃ n, markS (rows.take k) = n := ⟨_, rfl⟩
   simp only [hms, hmll] at hI rcl hml7
   simp only [hms] at m1 m2 hnm hct hst hb2 hnn
   simp only [hnx] at hnm hct hnn
   simp only [hme] at rdl hml hct hst hb2
   simp only [hva] at vcl hml hct
   rw [hss] at hst hb1 hb2 ⊢
   obtain ⟨cF, hcF⟩ : ∃ f : Int → Int, (fun x => cntG inn (rv.take k) x) = f := ⟨_, rfl⟩
   have hcF' : ∀ x, cntG inn (rv.take k) x = cF x := fun x => congrFun hcF x
   have hNx := fun W (hW : Below wr.heap.size wr W) => HNx.out _ ms W (bt hbr.out hW) (RInts.mono (fun _ _ => trivial) (hI.same (.of_below hW)))
   rw [hnx] at hNx
   have hltr := hA.out.lt
   have hX1 := fun W (hW : Below (wr.alloc (.cells #[.slice mb ml mc, .int .i64 many] 66)).heap.size (wr.alloc (.cells #[.slice mb ml mc, .int .i64 many] 66)) W) => own_box hW (by simp) (box_new wr (.cells #[.slice mb ml mc, .int .i64 many] 66))
   obtain ⟨-, xc, -⟩ := hX1 _ (Below.refl _ _)
   have xc0 := xc 0; have xc1 := xc 1
   have hw1 : IntKind.i64.wrap (s + many) = s + many ∨ ms = [] := by
    by_cases h0 : ms = []
    ·exact .inr h0
    ·rw [if_neg h0] at hb2
     exact .inl (by rw [IntKind.wrap_i64]; omega)
   cases nx with
   | none =>
    have hfe : fl C (fun x => cntG inn (rv.take (k + 1)) x) = fl C (fun x => cntG inn (rv.take k) x) := fl_congr fun x _ => by rw [hct x]; simp
    have HNx2 := Lib.hid hNx; have Hfe := Lib.hid hfe; have Hst := Lib.hid hst; have HX1 := Lib.hid hX1
    have hms0 : ms = [] ∨ ms ≠ [] := by by_cases h : ms = []; exact .inl h; exact .inr h
    clear hms hNx hfe hct hcb hcb0 hnm hme hva hcF hcF' hx hI m1 m2 hnx hst hnn hrow hlr hlv hvx xc hX1 hml hb1 hb2 hss
    rcases hms0 with h0 | h0
    ·obtain rfl : ml = 0 := by rw [← hmll, h0]; rfl
     have hst := Hst.out
     rw [if_pos h0, Int.add_zero] at hst
     have Hst := Lib.hid hst
     clear hmll h0 hst hw1
     go_wp2_with (go_at_call 68; refine (HNx2.out _ (below_new wr _)).mono ?_; rintro e w2 ⟨rfl, rfl⟩)
     exact ⟨⟨k + 1, by omega, by go_num, by rw [Hst.out], Lib.hid (by rw [Hfe.out]; exact hA.out.below (below_new _ _)), Lib.hid (bt hbr.out (below_new _ _))⟩, by simp [intOf]; omega⟩
    ·have hml0 : 0 < ml := by rw [← hmll]; exact List.length_pos_iff.2 h0
     have hst := Hst.out
     rw [if_neg h0] at hst
     have Hst := Lib.hid hst
     have hw1 := hw1.resolve_right h0
     clear hmll h0 hst
     go_wp2_with (go_at_call 68; refine (HNx2.out _ (below_new wr _)).mono ?_; rintro e w2 ⟨rfl, rfl⟩)
     exact ⟨⟨k + 1, by omega, by go_num, by rw [Hst.out], Lib.hid (by rw [Hfe.out]; exact hA.out.below (below_new _ _)), Lib.hid (bt hbr.out (below_new _ _))⟩, by simp [intOf]; omega⟩
   | some y =>
    obtain ⟨y0, y1⟩ := hnm y rfl
    obtain ⟨yn, rfl⟩ : ∃ yn : Nat, y = (yn : Int) := ⟨y.toNat, by omega⟩
    have h0 : ms ≠ [] := fun h => by have := hnn h; cases this
    have hml0 : 0 < ml := by rw [← hmll]; exact List.length_pos_iff.2 h0
    rw [if_neg h0] at hst hb2
    have hw1 := hw1.resolve_right h0
    have hfe : fl C (fun x => cntG inn (rv.take (k + 1)) x) = (fl C fun x => cntG inn (rv.take k) x).set yn (cF yn + many * val) := by
     rw [fl_set]
     refine fl_congr fun x _ => ?_
     rw [hct x]
     by_cases e : x = yn
     ·subst e; rw [if_pos rfl, if_pos rfl, hcF']
     ·rw [if_neg e, if_neg (fun h => e (by have := Option.some.inj h; omega))]; simp
    have hAc : ∀ W, Arr .i64 W (w.heap.size + 1) 3 (fl C fun x => cntG inn (rv.take k) x) → W.cell? ⟨w.heap.size + 1, yn, none⟩ = some (.int .i64 (cF yn)) := fun W hW => by rw [hW.cell (i := yn) (by rw [fl_length]; omega), fl_get, hcF']
    have hb3 := hcb (yn : Int)
    rw [hct, if_pos rfl, hcF'] at hb3
    have hb4 := hcb0 (yn : Int)
    rw [hcF'] at hb4
    obtain ⟨hv, hhv⟩ : ∃ v, cF (yn : Int) = v := ⟨_, rfl⟩
    rw [hhv] at hAc hb3 hb4 hfe
    have hw2 : IntKind.i64.wrap (many * val) = many * val := by rw [IntKind.wrap_i64]; omega
    have hw3 : IntKind.i64.wrap (hv + many * val) = hv + many * val := by rw [IntKind.wrap_i64]; omega
    have HNx2 := Lib.hid hNx; have Hfe := Lib.hid hfe; have Hst := Lib.hid hst; have HX1 := Lib.hid hX1; have HAc := Lib.hid hAc
    have hyC : yn < C := by omega
    have Hvc := Lib.hid vcl
    clear hms hNx hfe hct hcb hcb0 hnm hme hva hcF hcF' hx hI m1 m2 hnx hst hnn hrow hlr hlv hvx xc hX1 hml hb1 hb2 hb3 hb4 hss hAc hhv h0 hmll
    go_upto_region 11 with (go_at_call 68; refine (HNx2.out _ (below_new wr _)).mono ?_; rintro e w2 ⟨rfl, rfl⟩)
    obtain ⟨w2, hw2'⟩ : ∃ W, W = wr.alloc (.cells #[.slice mb ml mc, .int .i64 many] 66) := ⟨_, rfl⟩
    have hb3 : Below wr.heap.size wr w2 := by rw [hw2']; exact below_new _ _
    have hA2 := hA.out.below hb3
    have hAc := HAc.out _ hA2
    have hfz := hA2.frozen yn
    have hlA := hA2.lt
    have hxc := (HX1.out _ (Below.refl _ _)).2.1 1
    have hvc := (Same.of_below (S := Any) hb3).cell trivial Hvc.out
    rw [← hw2'] at hxc ⊢
    have HA2 := Lib.hid hA2; have Hb3 := Lib.hid hb3
    clear hA2 hb3 hw2' xc0 xc1 vcl rcl rdl pa pb pc pl
    go_still_tail 15, (by kernel_rfl)
    go_wp2
    exact ⟨⟨k + 1, by omega, by go_num, by rw [Hst.out], Lib.hid (by rw [Hfe.out]; exact Arr.set (show Arr .i64 w2.drew _ _ _ from HA2.out) _ _), Lib.hid (((bt hbr.out Hb3.out).drew).setCell (p := ⟨w.heap.size + 1, yn, none⟩) (by have := Hz0.out; simp; omega) _)⟩, by simp [intOf]; omega⟩
  ·have hkm : k = m := by omega
   have hfin : markS (rows.take k) = markS rows := by rw [List.take_of_length_le (by rw [← Hml.out]; omega)]
   have hA0 : Arr .i64 wr (w.heap.size + 1) 3 (fl C (hadG Q rv inn el 0)) := by
    have := hA.out
    rw [List.take_of_length_le (by rw [Hrm.out]; omega)] at this
    rwa [show (fun x : Nat => cntG inn rv (x : Int)) = hadG Q rv inn el 0 from funext fun x => by simp [hadG]] at this
   have hvb := Hmb.out k
   rw [hfin] at hvb ⊢
   obtain ⟨votes, hvo⟩ : ∃ v, markS rows = v := ⟨_, rfl⟩
   rw [hvo] at hvb ⊢
   have hw0 : IntKind.i64.wrap (votes * 1000000000) = votes * 1000000000 := by rw [IntKind.wrap_i64]; omega
   have HA0 := Lib.hid hA0
   have Hvb := Lib.hid hvb; have Hvo := Lib.hid hvo
   clear hA hA0 hfin hvo hkm
   go_wp2
   clear hw0 pa pb pc pl
   go_loopw [17, 18] (fun lost i wz => ∃ k : Nat, k ≤ C ∧ i = .int .i64 k ∧ Hid (lost = .int .i64 (votes * 1000000000 - ((greH C Q rv inn el).take k).sum)) ∧ Hid (Arr .i64 wz (w.heap.size + 1) 3 (fl C (hadG Q rv inn el k))) ∧ Hid (Below W0.heap.size W0 wz)) (fun _ i _ => C - (intOf i).toNat)
   case atStart => exact ⟨0, Nat.zero_le _, rfl, Lib.hid (by simp), HA0, hbr⟩
   case round =>
    clear HA0 hbr
    obtain ⟨j, hj, rfl, hls, hA, hbq⟩ := hrel
    obtain ⟨pa, pb, pc, pl⟩ := box3 G0.out hbq.out
    have hb1 := greH_take HV.out HQ.out hc inn el j
    have hb2 := greH_take HV.out HQ.out hc inn el (j + 1)
    obtain ⟨sm, hsm⟩ : ∃ v, ((greH C Q rv inn el).take j).sum = v := ⟨_, rfl⟩
    have hsc : j < C → ((greH C Q rv inn el).take (j + 1)).sum = sm + greF Q rv inn el j := fun h => by
     rw [sum_take_succ (by rw [greH, fl_length]; exact h), hsm]
     rw [show (greH C Q rv inn el)[j]'(by rw [greH, fl_length]; exact h) = greF Q rv inn el j from fl_get _]
    rw [hsm] at hls hb1
    have hvb2 := Hvb.out
    obtain ⟨l0, hl0⟩ : ∃ l, votes * 1000000000 - sm = l := ⟨_, rfl⟩
    rw [hl0] at hls
    obtain rfl := hls.out
    by_cases hlt2 : j < C
    ·have hfb := greF_bound HV.out HQ.out inn el j
     have hcb := HV.out.cntAll inn (j : Int)
     have hst : fl C (hadG Q rv inn el (j + 1)) = (fl C (hadG Q rv inn el j)).set j (greF Q rv inn el j) := by
      rw [fl_set]
      refine fl_congr fun x _ => ?_
      unfold hadG
      by_cases e : x = j
      ·subst e; rw [if_pos (by omega), if_pos rfl]
      ·rw [if_neg e]
       by_cases e2 : x < j
       ·rw [if_pos (by omega), if_pos e2]
       ·rw [if_neg (by omega), if_neg e2]
     have hAc : ∀ W, Arr .i64 W (w.heap.size + 1) 3 (fl C (hadG Q rv inn el j)) → W.cell? ⟨w.heap.size + 1, j, none⟩ = some (.int .i64 (cntG inn rv j)) := fun W hW => by rw [hW.cell (i := j) (by rw [fl_length]; omega), fl_get]; simp [hadG]
     have hIj := fun W (hW : Below wr.heap.size wr W) => HIe.out (j : Int) W (bt hbq.out hW)
     have hsj := hsc hlt2
     have hw2 : IntKind.i64.wrap (l0 - greF Q rv inn el j) = l0 - greF Q rv inn el j := by rw [IntKind.wrap_i64]; omega
     have hls2 : l0 - greF Q rv inn el j = votes * 1000000000 - ((greH C Q rv inn el).take (j + 1)).sum := by omega
     have hr : greF Q rv inn el j = if hasI el j = true then Q else cntG inn rv j := rfl
     obtain ⟨be, hbe⟩ : ∃ b, hasI el (j : Int) = b := ⟨_, rfl⟩
     rw [hbe] at hr hIj
     cases be with
     | true =>
      rw [if_pos rfl] at hr
      rw [hr] at hst hw2 hls2
      have HIj := Lib.hid hIj; have Hst := Lib.hid hst; have Hls2 := Lib.hid hls2; have HAc := Lib.hid hAc
      clear hIj hst hls2 hls hsj hsc hAc hfb hr hbe hvb2 hb1 hb2 hsm hl0 hcb
      go_upto_region 17 with (go_at_call 39; refine (HIj.out _ (Below.refl _ wr)).mono ?_; rintro e w2 ⟨rfl, hb2⟩; have B2 := Lib.hid hb2; clear hb2)
      have hA2 := hA.out.below B2.out
      have hAc := HAc.out _ hA2
      have hfz := hA2.frozen j
      have hlA := hA2.lt
      have hA3 : Arr .i64 (w2.setCell ⟨w.heap.size + 1, j, none⟩ (.int .i64 Q)) (w.heap.size + 1) 3 (fl C (hadG Q rv inn el (j + 1))) := by rw [Hst.out]; exact Arr.set hA2 _ _
      have hAc3 : (w2.setCell ⟨w.heap.size + 1, j, none⟩ (.int .i64 Q)).cell? ⟨w.heap.size + 1, j, none⟩ = some (.int .i64 Q) := by
       have := Arr.set hA2 j Q
       rw [this.cell (i := j) (by rw [List.length_set, fl_length]; exact hlt2), List.getElem_set_self]
      have HA3 := Lib.hid hA3
      clear hA2 hA3 pa pb pc pl
      go_wp2
      exact ⟨⟨j + 1, by omega, by go_num, Lib.hid (by rw [Hls2.out]), HA3, Lib.hid ((bt hbq.out B2.out).setCell (p := ⟨w.heap.size + 1, j, none⟩) (by have := Hz0.out; simp; omega) _)⟩, by simp [intOf]; omega⟩
     | false =>
      rw [if_neg (by simp)] at hr
      have hst2 : fl C (hadG Q rv inn el (j + 1)) = fl C (hadG Q rv inn el j) := by
       rw [hst, hr]
       apply List.ext_getElem (by simp [fl_length])
       intro i i1 i2
       rw [List.getElem_set]
       by_cases e : j = i
       ·subst e; rw [if_pos rfl, fl_get]; simp [hadG]
       ·rw [if_neg e]
      rw [hr] at hw2 hls2
      obtain ⟨cn, hcn⟩ : ∃ v, cntG inn rv (j : Int) = v := ⟨_, rfl⟩
      rw [hcn] at hAc hw2 hls2
      have HIj := Lib.hid hIj; have Hst := Lib.hid hst2; have Hls2 := Lib.hid hls2; have HAc := Lib.hid hAc
      clear hIj hst hst2 hls2 hls hsj hsc hAc hfb hr hbe hvb2 hb1 hb2 hsm hl0 hcb hcn
      go_upto_region 18 with (go_at_call 39; refine (HIj.out _ (Below.refl _ wr)).mono ?_; rintro e w2 ⟨rfl, hb2⟩; have B2 := Lib.hid hb2; clear hb2)
      have hA2 := hA.out.below B2.out
      have hAc := HAc.out _ hA2
      have HA2 := Lib.hid hA2
      clear hA2 pa pb pc pl
      go_wp2
      exact ⟨⟨j + 1, by omega, by go_num, Lib.hid (by rw [Hls2.out]), Lib.hid (by rw [Hst.out]; exact HA2.out), Lib.hid (bt hbq.out B2.out)⟩, by simp [intOf]; omega⟩
    ·have hjC : j = C := by omega
     have hfull : Arr .i64 wr (w.heap.size + 1) 3 (greH C Q rv inn el) := by
      have := hA.out
      rwa [show fl C (hadG Q rv inn el j) = greH C Q rv inn el from fl_congr fun x hx => by simp [hadG, hjC, hx]] at this
     have hL : max l0 0 = greL C Q votes rv inn el := by
      rw [greL, ← hl0, ← hsm, List.take_of_length_le (by rw [greH, fl_length]; omega)]
     have HL := Lib.hid hL; have HF := Lib.hid hfull
     clear hjC hL hfull hA hls hb1 hb2 hsm hsc hvb2 hl0
     go_wp2
     go_ret2
     exact ⟨by rw [Hvo.out, ← HL.out]; rfl, HF.out, bt Hb0.out hbq.out⟩
end Go.Proofs.YthcbkhfmdginiaaGreat

namespace Go.Proofs.YthcbkhfmdginiaaGreat
open Go Go.RowKit Go.Shelf

structure RCn where
 base : Nat
 g : Nat
 gv : Nat
 x : Blks
def RCn.L (k : RCn) (ve vrd vt : Value) : List (Option Nat × TypeId) := [(some k.g, 32), (some k.gv, 3), (ve.ownBlock, 3), (vrd.ownBlock, 58), (vt.ownBlock, 115)]
def RCn.M (k : RCn) (ve vrd vt : Value) : Blks := [some k.g, some k.gv, ve.ownBlock, vrd.ownBlock, vt.ownBlock]
abbrev RCn.R (k : RCn) (w : World) (ve vrd vt : Value) : Nat → Prop := Rk (k.x ++ k.M ve vrd vt) k.base w
structure RS (k : RCn) (w : World) (ve vrd vt : Value) (vals el : List Int) (rounds : List Rnd) (ties : List Tie) : Prop where
 bg : w.heap[k.g]? = some (.cells #[ve, vrd, vt] 32 (0, 0))
 va : Arr .i64 w k.gv 3 vals
 oe : Own k.base 3 1 (dInt .i64) w ve el
 ord : Own k.base 58 6 (dRnd (k.R w ve vrd vt)) w vrd rounds
 ot : Own k.base 115 2 (dTie (k.R w ve vrd vt)) w vt ties
 ne : ve.ownBlock ≠ some k.gv
 lg : k.base ≤ k.g ∧ k.base ≤ k.gv
 lx : ∀ b, some b ∈ k.x → b < w.heap.size
def TyAt2 (w : World) (b : Nat) (t : TypeId) : Prop := ∃ cur fr, w.heap[b]? = some (.cells cur t fr)
theorem TyAt2.inj {w : World} {b : Nat} {t u : TypeId} (h : TyAt2 w b t) (k : TyAt2 w b u) : t = u := by
 obtain ⟨c1, f1, h⟩ := h; obtain ⟨c2, f2, k⟩ := k
 rw [h] at k; simp only [Option.some.injEq, Obj.cells.injEq] at k; exact k.2.1
section
variable {k : RCn} {w w1 : World} {ve vrd vt ve' vrd' vt' : Value} {vals el el' : List Int} {rounds rounds' : List Rnd} {ties ties' : List Tie} {K : Blks}
theorem RS.typed (h : RS k w ve vrd vt vals el rounds ties) : ∀ p ∈ k.L ve vrd vt, ∀ b, p.1 = some b → TyAt2 w b p.2 := by
 have own : ∀ {α : Type} {n : Nat} {e : TypeId} {dec : World → List Value → α → Prop} {v : Value} {xs : List α} (h : Own k.base e n dec w v xs) b, v.ownBlock = some b → TyAt2 w b e := fun h b hb => by
  obtain ⟨cur, h1⟩ := own_type h hb
  exact ⟨cur, _, h1⟩
 intro p hp b hb
 simp only [RCn.L, List.mem_cons, List.not_mem_nil, or_false] at hp
 rcases hp with rfl | rfl | rfl | rfl | rfl
 ·cases hb; exact ⟨_, _, h.bg⟩
 ·cases hb; exact ⟨_, _, h.va⟩
 ·exact own h.oe b hb
 ·exact own h.ord b hb
 ·exact own h.ot b hb
theorem RS.df (h : RS k w ve vrd vt vals el rounds ties) {o1 o2 : Option Nat} {t1 t2 : TypeId} (h1 : (o1, t1) ∈ k.L ve vrd vt) (h2 : (o2, t2) ∈ k.L ve vrd vt) (hne : t1 ≠ t2) : ∀ b, o1 = some b → some b ≠ o2 :=
 fun b hb e => hne ((h.typed _ h1 b hb).inj (h.typed _ h2 b e.symm))
theorem RS.low (h : RS k w ve vrd vt vals el rounds ties) : ∀ b, some b ∈ k.M ve vrd vt → k.base ≤ b ∧ b < w.heap.size := by
 have hl := h.lg
 intro b hb
 simp only [RCn.M, List.mem_cons, List.not_mem_nil, or_false, Option.some.injEq] at hb
 rcases hb with rfl | rfl | e | e | e
 ·exact ⟨hl.1, size_of_box h.bg⟩
 ·exact ⟨hl.2, h.va.lt⟩
 ·exact Own.lt h.oe b e.symm
 ·exact Own.lt h.ord b e.symm
 ·exact Own.lt h.ot b e.symm
theorem RCn.mv (h1 : Mv w ve ve') (h2 : Mv w vrd vrd') (h3 : Mv w vt vt') : ∀ b, b < w.heap.size → some b ∈ k.M ve' vrd' vt' → some b ∈ k.M ve vrd vt := by
 intro b hb hm
 simp only [RCn.M, List.mem_cons, List.not_mem_nil, or_false] at hm ⊢
 rcases hm with e | e | e | e | e
 ·exact .inl e
 ·exact .inr (.inl e)
 ·exact .inr (.inr (.inl (h1.of hb e)))
 ·exact .inr (.inr (.inr (.inl (h2.of hb e))))
 ·exact .inr (.inr (.inr (.inr (h3.of hb e))))
theorem RCn.up (hs : w.heap.size ≤ w1.heap.size) (hM : ∀ b, b < w.heap.size → some b ∈ k.M ve' vrd' vt' → some b ∈ k.M ve vrd vt) : ∀ b, k.R w ve vrd vt b → k.R w1 ve' vrd' vt' b :=
 Rk.up hs fun b hb hm => (List.mem_append.1 hm).elim (fun e => List.mem_append_left _ e) fun hm => List.mem_append_right _ (hM b hb hm)
theorem Mv.same (w : World) (v : Value) : Mv w v v := .inl rfl
theorem RS.members (_h : RS k w ve vrd vt vals el rounds ties) (hK : ∀ b, some b ∈ K → some b ∈ k.x ++ k.M ve vrd vt) : ∀ b, k.R w ve vrd vt b → some b ∉ K := Rk.out hK
section
variable (h : RS k w ve vrd vt vals el rounds ties) (hk : Keep K w w1) (hK : ∀ b, some b ∈ K → some b ∈ k.x ++ k.M ve vrd vt)
include h hk
theorem RS.kbg (hn : some k.g ∉ K) : w1.heap[k.g]? = some (.cells #[ve, vrd, vt] 32 (0, 0)) := hk.box h.bg hn
theorem RS.kva (hn : some k.gv ∉ K) : Arr .i64 w1 k.gv 3 vals := hk.box h.va hn
theorem RS.koe (hn : ∀ b, ve.ownBlock = some b → some b ∉ K) : Own k.base 3 1 (dInt .i64) w1 ve el := hk.own (S := fun _ => False) (dInt.stable _ _) h.oe hn (fun _ h => h.elim)
include hK
theorem RS.kord (hn : ∀ b, vrd.ownBlock = some b → some b ∉ K) (hM : ∀ b, b < w.heap.size → some b ∈ k.M ve' vrd' vt' → some b ∈ k.M ve vrd vt) : Own k.base 58 6 (dRnd (k.R w1 ve' vrd' vt')) w1 vrd rounds :=
 Own.dmono (fun _ _ hd => dRnd.mono (RCn.up hk.size hM) hd) (hk.own (dRnd.stable _) h.ord hn (Rk.out hK))
theorem RS.kot (hn : ∀ b, vt.ownBlock = some b → some b ∉ K) (hM : ∀ b, b < w.heap.size → some b ∈ k.M ve' vrd' vt' → some b ∈ k.M ve vrd vt) : Own k.base 115 2 (dTie (k.R w1 ve' vrd' vt')) w1 vt ties :=
 Own.dmono (fun _ _ hd => dTie.mono (RCn.up hk.size hM) hd) (hk.own (dTie.stable _) h.ot hn (Rk.out hK))
end
theorem RS.below (h : RS k w ve vrd vt vals el rounds ties) (hb : Below w.heap.size w w1) : RS k w1 ve vrd vt vals el rounds ties :=
 have hk : Keep ([] : Blks) w w1 := Keep.of_below hb
 have hK : ∀ b, some b ∈ ([] : Blks) → some b ∈ k.x ++ k.M ve vrd vt := fun _ h => by cases h
 have hM := RCn.mv (k := k) (Mv.same w ve) (Mv.same w vrd) (Mv.same w vt)
 have hn : ∀ (o : Option Nat) b, o = some b → some b ∉ ([] : Blks) := fun _ _ _ h => by cases h
 ⟨h.kbg hk (hn _ _ rfl), h.kva hk (hn _ _ rfl), h.koe hk (hn _), h.kord hk hK (hn _) hM, h.kot hk hK (hn _) hM, h.ne, h.lg, fun b hb => Nat.lt_of_lt_of_le (h.lx b hb) hk.size⟩
theorem RS.aside (h : RS k w ve vrd vt vals el rounds ties) (hk : Keep K w w1) (hK : ∀ b, some b ∈ K → some b ∈ k.x ∧ some b ∉ k.M ve vrd vt) : RS k w1 ve vrd vt vals el rounds ties :=
 have hK2 : ∀ b, some b ∈ K → some b ∈ k.x ++ k.M ve vrd vt := fun b hb => List.mem_append_left _ (hK b hb).1
 have hM := RCn.mv (k := k) (Mv.same w ve) (Mv.same w vrd) (Mv.same w vt)
 ⟨h.kbg hk fun hb => (hK _ hb).2 (by simp [RCn.M]), h.kva hk fun hb => (hK _ hb).2 (by simp [RCn.M]), h.koe hk fun b e hb => (hK _ hb).2 (by simp [RCn.M, e]), h.kord hk hK2 (fun b e hb => (hK _ hb).2 (by simp [RCn.M, e])) hM, h.kot hk hK2 (fun b e hb => (hK _ hb).2 (by simp [RCn.M, e])) hM, h.ne, h.lg, fun b hb => Nat.lt_of_lt_of_le (h.lx b hb) hk.size⟩
theorem RS.side {X Y : Blks} (h : RS { k with x := X } w ve vrd vt vals el rounds ties) (hb : Below w.heap.size w w1) (hY : ∀ b, some b ∈ Y → b < w1.heap.size ∧ (some b ∈ X ∨ w.heap.size ≤ b)) : RS { k with x := Y } w1 ve vrd vt vals el rounds ties := by
 have h1 := h.below hb
 have hup : ∀ b, (RCn.mk k.base k.g k.gv X).R w ve vrd vt b → (RCn.mk k.base k.g k.gv Y).R w1 ve vrd vt b := Rk.up hb.size fun b hbs hm => by
  rcases List.mem_append.1 hm with hm | hm
  ·rcases (hY b hm).2 with h2 | h2
   ·exact List.mem_append_left _ h2
   ·omega
  ·exact List.mem_append_right _ hm
 have hk : Keep ([] : Blks) w w1 := Keep.of_below hb
 have hn : ∀ (o : Option Nat) b, o = some b → some b ∉ ([] : Blks) := fun _ _ _ h => by cases h
 exact ⟨h1.bg, h1.va, h1.oe, Own.dmono (fun _ _ hd => dRnd.mono hup hd) (hk.own (dRnd.stable _) h.ord (hn _) (fun _ _ h => by cases h)), Own.dmono (fun _ _ hd => dTie.mono hup hd) (hk.own (dTie.stable _) h.ot (hn _) (fun _ _ h => by cases h)), h.ne, h.lg, fun b hb => (hY b hb).1⟩
theorem RS.tie (h : RS k w ve vrd vt vals el rounds ties) (hO : Own k.base 115 2 (dTie (k.R w ve vrd vt)) w1 vt' ties') (hg : w.grownBy w1 vt.ownBlock) (hm : Mv w vt vt') :
  RS k (w1.setCell ⟨k.g, 2, none⟩ vt') ve vrd vt' vals el rounds ties' ∧ Keep [some k.g, vt.ownBlock] w (w1.setCell ⟨k.g, 2, none⟩ vt') := by
 have hk1 : Keep [vt.ownBlock] w w1 := Keep.of_grown hg
 have d : ∀ {o : Option Nat} {t : TypeId}, (o, t) ∈ k.L ve vrd vt → t ≠ 115 → ∀ b, o = some b → some b ∉ [vt.ownBlock] := fun ho ht b hb hm => h.df ho (o2 := vt.ownBlock) (t2 := 115) (by simp [RCn.L]) ht b hb (List.mem_singleton.1 hm)
 have hbg := h.kbg hk1 (d (o := some k.g) (t := 32) (by simp [RCn.L]) (by decide) _ rfl)
 have hk : Keep [some k.g, vt.ownBlock] w (w1.setCell ⟨k.g, 2, none⟩ vt') := Keep.set hk1 _ _ _
 have hK : ∀ b, some b ∈ [some k.g, vt.ownBlock] → some b ∈ k.x ++ k.M ve vrd vt := fun b hb => List.mem_append_right _ (by
  simp only [List.mem_cons, List.not_mem_nil, or_false] at hb
  rcases hb with e | e <;> rw [e] <;> simp [RCn.M])
 have d2 : ∀ {o : Option Nat} {t : TypeId}, (o, t) ∈ k.L ve vrd vt → t ≠ 115 → t ≠ 32 → ∀ b, o = some b → some b ∉ [some k.g, vt.ownBlock] := fun ho h1 h2 b hb hm => by
  rcases List.mem_cons.1 hm with e | e
  ·exact h.df ho (o2 := some k.g) (t2 := 32) (by simp [RCn.L]) h2 b hb e
  ·exact d ho h1 b hb e
 have hM := RCn.mv (k := k) (Mv.same w ve) (Mv.same w vrd) hm
 have hOb : ∀ b, vt'.ownBlock = some b → some b ∉ [some k.g] := fun b hb hm2 => by
  obtain ⟨cur, hc⟩ := own_type hO hb
  have e : b = k.g := by simpa using hm2
  rw [e, hbg] at hc
  simp only [Option.some.injEq, Obj.cells.injEq] at hc
  exact absurd hc.2.1 (by decide)
 refine ⟨⟨by rw [heap_setCell_at hbg]; rfl, h.kva hk (d2 (o := some k.gv) (t := 3) (by simp [RCn.L]) (by decide) (by decide) _ rfl), h.koe hk (d2 (t := 3) (by simp [RCn.L]) (by decide) (by decide)), h.kord hk hK (d2 (t := 58) (by simp [RCn.L]) (by decide) (by decide)) hM, ?_, h.ne, h.lg, fun b hb => Nat.lt_of_lt_of_le (h.lx b hb) hk.size⟩, hk⟩
 have hs : w.heap.size ≤ (w1.setCell ⟨k.g, 2, none⟩ vt').heap.size := hk.size
 refine Own.dmono (fun _ _ hd => dTie.mono (fun b hb => RCn.up hs hM b hb) hd) (((Keep.refl [some k.g] w1).setIn k.g 2 vt' (.inl (by simp))).own (dTie.stable _) hO hOb (fun b hb hm => hb.2.2 (List.mem_append_right _ (by rw [List.mem_singleton.1 hm]; simp [RCn.M]))))
theorem RS.elect (h : RS k w ve vrd vt vals el rounds ties) (hO : Own k.base 3 1 (dInt .i64) w1 ve' el') (hg : w.grownBy w1 ve.ownBlock) (hm : Mv w ve ve') :
  RS k (w1.setCell ⟨k.g, 0, none⟩ ve') ve' vrd vt vals el' rounds ties ∧ Keep [some k.g, ve.ownBlock] w (w1.setCell ⟨k.g, 0, none⟩ ve') := by
 have hk1 : Keep [ve.ownBlock] w w1 := Keep.of_grown hg
 have d : ∀ {o : Option Nat} {t : TypeId}, (o, t) ∈ k.L ve vrd vt → t ≠ 3 → ∀ b, o = some b → some b ∉ [ve.ownBlock] := fun ho ht b hb hm => h.df ho (o2 := ve.ownBlock) (t2 := 3) (by simp [RCn.L]) ht b hb (List.mem_singleton.1 hm)
 have hbg := h.kbg hk1 (d (o := some k.g) (t := 32) (by simp [RCn.L]) (by decide) _ rfl)
 have hk : Keep [some k.g, ve.ownBlock] w (w1.setCell ⟨k.g, 0, none⟩ ve') := Keep.set hk1 _ _ _
 have hK : ∀ b, some b ∈ [some k.g, ve.ownBlock] → some b ∈ k.x ++ k.M ve vrd vt := fun b hb => List.mem_append_right _ (by
  simp only [List.mem_cons, List.not_mem_nil, or_false] at hb
  rcases hb with e | e <;> rw [e] <;> simp [RCn.M])
 have d2 : ∀ {o : Option Nat} {t : TypeId}, (o, t) ∈ k.L ve vrd vt → t ≠ 3 → t ≠ 32 → ∀ b, o = some b → some b ∉ [some k.g, ve.ownBlock] := fun ho h1 h2 b hb hm => by
  rcases List.mem_cons.1 hm with e | e
  ·exact h.df ho (o2 := some k.g) (t2 := 32) (by simp [RCn.L]) h2 b hb e
  ·exact d ho h1 b hb e
 have hM := RCn.mv (k := k) hm (Mv.same w vrd) (Mv.same w vt)
 have hOb : ∀ b, ve'.ownBlock = some b → some b ∉ [some k.g] := fun b hb hm2 => by
  obtain ⟨cur, hc⟩ := own_type hO hb
  have e : b = k.g := by simpa using hm2
  rw [e, hbg] at hc
  simp only [Option.some.injEq, Obj.cells.injEq] at hc
  exact absurd hc.2.1 (by decide)
 have hvg : some k.gv ∉ [some k.g, ve.ownBlock] := fun hm2 => by
  rcases List.mem_cons.1 hm2 with e | e
  ·exact h.df (o1 := some k.gv) (t1 := 3) (o2 := some k.g) (t2 := 32) (by simp [RCn.L]) (by simp [RCn.L]) (by decide) _ rfl e
  ·exact h.ne (List.mem_singleton.1 e).symm
 refine ⟨⟨by rw [heap_setCell_at hbg]; rfl, h.kva hk hvg, ?_, h.kord hk hK (d2 (t := 58) (by simp [RCn.L]) (by decide) (by decide)) hM, h.kot hk hK (d2 (t := 115) (by simp [RCn.L]) (by decide) (by decide)) hM, ?_, h.lg, fun b hb => Nat.lt_of_lt_of_le (h.lx b hb) hk.size⟩, hk⟩
 ·exact ((Keep.refl [some k.g] w1).setIn k.g 0 ve' (.inl (by simp))).own (S := fun _ => False) (dInt.stable _ _) hO hOb (fun _ h => h.elim)
 ·intro e
  have := h.va.lt
  rcases hm with hm | ⟨b, hb, hz⟩
  ·exact h.ne (hm ▸ e)
  ·rw [hb] at e; cases e; omega
theorem RS.round (h : RS k w ve vrd vt vals el rounds ties) (hO : Own k.base 58 6 (dRnd (k.R w1 ve vrd' vt)) w1 vrd' rounds') (hg : w.grownBy w1 vrd.ownBlock) (hm : Mv w vrd vrd') :
  RS k (w1.setCell ⟨k.g, 1, none⟩ vrd') ve vrd' vt vals el rounds' ties ∧ Keep [some k.g, vrd.ownBlock] w (w1.setCell ⟨k.g, 1, none⟩ vrd') := by
 have hk1 : Keep [vrd.ownBlock] w w1 := Keep.of_grown hg
 have d : ∀ {o : Option Nat} {t : TypeId}, (o, t) ∈ k.L ve vrd vt → t ≠ 58 → ∀ b, o = some b → some b ∉ [vrd.ownBlock] := fun ho ht b hb hm => h.df ho (o2 := vrd.ownBlock) (t2 := 58) (by simp [RCn.L]) ht b hb (List.mem_singleton.1 hm)
 have hbg := h.kbg hk1 (d (o := some k.g) (t := 32) (by simp [RCn.L]) (by decide) _ rfl)
 have hk : Keep [some k.g, vrd.ownBlock] w (w1.setCell ⟨k.g, 1, none⟩ vrd') := Keep.set hk1 _ _ _
 have hK : ∀ b, some b ∈ [some k.g, vrd.ownBlock] → some b ∈ k.x ++ k.M ve vrd vt := fun b hb => List.mem_append_right _ (by
  simp only [List.mem_cons, List.not_mem_nil, or_false] at hb
  rcases hb with e | e <;> rw [e] <;> simp [RCn.M])
 have d2 : ∀ {o : Option Nat} {t : TypeId}, (o, t) ∈ k.L ve vrd vt → t ≠ 58 → t ≠ 32 → ∀ b, o = some b → some b ∉ [some k.g, vrd.ownBlock] := fun ho h1 h2 b hb hm => by
  rcases List.mem_cons.1 hm with e | e
  ·exact h.df ho (o2 := some k.g) (t2 := 32) (by simp [RCn.L]) h2 b hb e
  ·exact d ho h1 b hb e
 have hM := RCn.mv (k := k) (Mv.same w ve) hm (Mv.same w vt)
 have hOb : ∀ b, vrd'.ownBlock = some b → some b ∉ [some k.g] := fun b hb hm2 => by
  obtain ⟨cur, hc⟩ := own_type hO hb
  have e : b = k.g := by simpa using hm2
  rw [e, hbg] at hc
  simp only [Option.some.injEq, Obj.cells.injEq] at hc
  exact absurd hc.2.1 (by decide)
 refine ⟨⟨by rw [heap_setCell_at hbg]; rfl, h.kva hk (d2 (o := some k.gv) (t := 3) (by simp [RCn.L]) (by decide) (by decide) _ rfl), h.koe hk (d2 (t := 3) (by simp [RCn.L]) (by decide) (by decide)), ?_, h.kot hk hK (d2 (t := 115) (by simp [RCn.L]) (by decide) (by decide)) hM, h.ne, h.lg, fun b hb => Nat.lt_of_lt_of_le (h.lx b hb) hk.size⟩, hk⟩
 refine Own.dmono (fun _ _ hd => dRnd.mono (Rk.up (by simp) fun _ _ h => h) hd) (((Keep.refl [some k.g] w1).setIn k.g 1 vrd' (.inl (by simp))).own (dRnd.stable _) hO hOb (fun b hb hm => hb.2.2 (List.mem_append_right _ (by rw [List.mem_singleton.1 hm]; simp [RCn.M]))))
theorem RS.val (h : RS k w ve vrd vt vals el rounds ties) (i : Nat) (y : Int) : RS k (w.setCell ⟨k.gv, i, none⟩ (.int .i64 y)) ve vrd vt (vals.set i y) el rounds ties ∧ Keep [some k.gv] w (w.setCell ⟨k.gv, i, none⟩ (.int .i64 y)) := by
 have hk : Keep [some k.gv] w (w.setCell ⟨k.gv, i, none⟩ (.int .i64 y)) := (Keep.refl _ w).setIn _ _ _ (.inl (by simp))
 have hK : ∀ b, some b ∈ [some k.gv] → some b ∈ k.x ++ k.M ve vrd vt := fun b hb => List.mem_append_right _ (by rw [List.mem_singleton.1 hb]; simp [RCn.M])
 have d : ∀ {o : Option Nat} {t : TypeId}, (o, t) ∈ k.L ve vrd vt → t ≠ 3 → ∀ b, o = some b → some b ∉ [some k.gv] := fun ho ht b hb hm => h.df ho (o2 := some k.gv) (t2 := 3) (by simp [RCn.L]) ht b hb (List.mem_singleton.1 hm)
 have hM := RCn.mv (k := k) (Mv.same w ve) (Mv.same w vrd) (Mv.same w vt)
 exact ⟨⟨h.kbg hk (d (o := some k.g) (t := 32) (by simp [RCn.L]) (by decide) _ rfl), h.va.set i y, h.koe hk (fun b e hb => h.ne (e.trans (List.mem_singleton.1 hb))), h.kord hk hK (d (t := 58) (by simp [RCn.L]) (by decide)) hM, h.kot hk hK (d (t := 115) (by simp [RCn.L]) (by decide)) hM, h.ne, h.lg, fun b hb => by have := h.lx b hb; simpa using this⟩, hk⟩
end
end Go.Proofs.YthcbkhfmdginiaaGreat
