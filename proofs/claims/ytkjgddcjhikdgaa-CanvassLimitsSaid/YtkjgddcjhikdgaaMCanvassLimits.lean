/- The law CanvassLimits returns true whatever the input, and every argument reads behind the call as it read before. No condition. -/
import Derived.Test.YtkjgddcjhikdgaaGRat
import Derived.Test.YtkjgddcjhikdgaaGCan
import Derived.Test.YtkjgddcjhikdgaaRows
import Derived.Test.YtkjgddcjhikdgaaGFoot
import Derived.Deep.CutRange
import Derived.WalkKit
import Derived.ProofKit
import Derived.OpenShut
import Derived.ShutString
import Derived.ChangeOld
import Derived.Below

/- What the law CanvassLimits says of the answers of Due, as a plain law; no program. -/
namespace Go.Proofs.Ytkjgddcjhikdgaa
open Go Go.RowKit Go.Shelf Limb

theorem dueR_err (l m : Int) (x : Rt) : (dueR l m x.neg x.num x.den).2 = 0 → dueR l m x.neg x.num x.den = (true, 0) ∧ m = 0 ∨
    (0 ≤ l ∧ l ≤ 1000000 ∧ 0 < m ∧ m ≤ 1000000 ∧ ratChk x.neg x.num x.den = 0 ∧ x.neg = false ∧ x.num.length ≤ 8 ∧ x.den.length ≤ 8 ∧ dueR l m x.neg x.num x.den = (decide (l.toNat * (val x.den).toNat ≤ (val x.num).toNat * m.toNat), 0)) := by
  unfold dueR
  split
  · intro h; simp at h
  · split
    · intro h; simp at h
    · split
      · intro _; exact .inl ⟨rfl, by assumption⟩
      · rename_i h1 h2 h3
        intro _
        simp only [not_or, Decidable.not_not, Int.not_lt, Nat.not_lt] at h1 h2
        exact .inr ⟨h1.1, h1.2.1, by omega, h1.2.2.2, h2.1, by simpa using h2.2.1, h2.2.2.1, h2.2.2.2, rfl⟩
/-- One more ballot: the same error, and not due before it is due. -/
theorem dueR_more {l m : Int} (x : Rt) (h0 : 0 ≤ l) (h1 : l < 1000000) : (dueR l m x.neg x.num x.den).2 = (dueR (l + 1) m x.neg x.num x.den).2 ∧
    ((dueR l m x.neg x.num x.den).2 = 0 → (dueR (l + 1) m x.neg x.num x.den).1 = true → (dueR l m x.neg x.num x.den).1 = true) := by
  have e1 : (l < 0 ∨ 1000000 < l ∨ m < 0 ∨ 1000000 < m) ↔ (m < 0 ∨ 1000000 < m) := by omega
  have e2 : (l + 1 < 0 ∨ 1000000 < l + 1 ∨ m < 0 ∨ 1000000 < m) ↔ (m < 0 ∨ 1000000 < m) := by omega
  unfold dueR
  simp only [e1, e2]
  split
  · simp
  · split
    · simp
    · split
      · simp
      · refine ⟨rfl, fun _ h => ?_⟩
        simp only [decide_eq_true_eq] at h ⊢
        refine Nat.le_trans (Nat.mul_le_mul_right _ ?_) h
        omega
theorem lim_len_mul {a b : Nat} (h1 : (lim a).length ≤ 8) (h2 : (lim b).length ≤ 8) : (lim (a * b)).length ≤ 96 := by
  refine Nat.le_trans (lim_length_le (k := 16) ?_) (by omega)
  have k1 := Int.lt_of_lt_of_le (lt_of_lim a) (pw_mono h1)
  have k2 := Int.lt_of_lt_of_le (lt_of_lim b) (pw_mono h2)
  rw [show 16 = 8 + 8 from rfl, pw_add, Int.natCast_mul]
  have k3 : (a : Int) * b ≤ a * pw 8 := Int.mul_le_mul_of_nonneg_left (Int.le_of_lt k2) (by omega)
  have k4 : (a : Int) * pw 8 < pw 8 * pw 8 := Int.mul_lt_mul_of_pos_right k1 (pw_pos 8)
  omega
/-- A greater limit: due if it was due. -/
theorem dueR_limit {l m : Int} {x y : Rt} (hlx : Lim x.num ∧ Lim x.den) (hly : Lim y.num ∧ Lim y.den) (h1 : (dueR l m x.neg x.num x.den).2 = 0) (h2 : (dueR l m y.neg y.num y.den).2 = 0)
    (h3 : (cmpRat x.neg y.neg x.num x.den y.num y.den).1 ≤ 0) (ha : (dueR l m x.neg x.num x.den).1 = true) : (dueR l m y.neg y.num y.den).1 = true := by
  obtain ⟨neg, xs, ys⟩ := x
  obtain ⟨neg', us, vs⟩ := y
  rcases dueR_err l m _ h2 with ⟨e, -⟩ | ⟨-, -, hm, -, c1, c2, c3, c4, ey⟩
  · rw [e]
  rcases dueR_err l m _ h1 with ⟨-, e⟩ | ⟨-, -, -, -, b1, b2, b3, b4, ex⟩
  · omega
  simp only at *
  subst b2; subst c2
  obtain ⟨N, D, rfl, rfl, -, -, D0, -, -⟩ := ratChk_valid hlx.1 hlx.2 b1
  obtain ⟨N', D', rfl, rfl, -, -, D0', -, -⟩ := ratChk_valid hly.1 hly.2 c1
  rw [cmpRat_nonneg b1 c1 D0 D0' (lim_len_mul b3 c4) (lim_len_mul c3 b4)] at h3
  rw [ex] at ha
  rw [ey]
  simp only [val_lim, Int.toNat_natCast, decide_eq_true_eq] at ha ⊢
  have hc : N * D' ≤ N' * D := by
    unfold cmpN at h3
    split at h3
    · omega
    · split at h3
      · simp at h3
      · omega
  refine Nat.le_of_mul_le_mul_left (c := D) ?_ (by omega)
  calc D * (l.toNat * D') = (l.toNat * D) * D' := by rw [Nat.mul_left_comm, ← Nat.mul_assoc]
    _ ≤ (N * m.toNat) * D' := Nat.mul_le_mul_right _ ha
    _ = (N * D') * m.toNat := by rw [Nat.mul_right_comm]
    _ ≤ (N' * D) * m.toNat := Nat.mul_le_mul_right _ hc
    _ = D * (N' * m.toNat) := by rw [Nat.mul_comm N' D, Nat.mul_assoc]
/-- The limit that is the quotient itself. -/
theorem dueR_part {l k m : Nat} (h1 : k ≤ 1000000) (hl : l ≤ 1000000) (h2 : 0 < m) (h3 : m ≤ 1000000) : dueR k m false (lim (l / Nat.gcd l m)) (lim (m / Nat.gcd l m)) = (decide (k ≤ l), 0) := by
  have hg0 : 0 < Nat.gcd l m := Nat.gcd_pos_of_pos_right l h2
  have q1 : (lim (l / Nat.gcd l m)).length ≤ 1 := by
    have h1 : l / Nat.gcd l m ≤ l := Nat.div_le_self _ _
    exact lim_length_le (k := 1) (by rw [pw_succ, pw_zero]; omega)
  have q2 : (lim (m / Nat.gcd l m)).length ≤ 1 := by
    have h1 : m / Nat.gcd l m ≤ m := Nat.div_le_self _ _
    exact lim_length_le (k := 1) (by rw [pw_succ, pw_zero]; omega)
  have q3 : m / Nat.gcd l m ≠ 0 := fun e => by have := Nat.div_mul_cancel (Nat.gcd_dvd_right l m); rw [e, Nat.zero_mul] at this; omega
  have hck : ratChk false (lim (l / Nat.gcd l m)) (lim (m / Nat.gcd l m)) = 0 := by
    rw [ratChk_ok (by omega) (by omega) q3 (gcd_cop hg0) (by simp)]; rfl
  unfold dueR
  rw [if_neg (by omega), if_neg (by rw [hck]; simp; omega), if_neg (by omega)]
  simp only [val_lim, Int.toNat_natCast, Prod.mk.injEq, and_true]
  apply decide_eq_decide.2
  have e1 := Nat.div_mul_cancel (Nat.gcd_dvd_left l m)
  have e2 := Nat.div_mul_cancel (Nat.gcd_dvd_right l m)
  generalize Nat.gcd l m = g at *
  generalize l / g = a at *
  generalize m / g = b at *
  subst e1
  subst e2
  have e : a * (b * g) = (a * g) * b := by rw [Nat.mul_comm b g, Nat.mul_assoc]
  rw [e]
  exact Nat.mul_le_mul_right_iff (by omega)
end Go.Proofs.Ytkjgddcjhikdgaa

/- The walk of the law CanvassLimits. -/
namespace Go.Proofs.Ytkjgddcjhikdgaa
open Go Go.RowKit Go.Shelf Limb

/-- What the law's main way needs of its callees. -/
structure LimitsHas (l m : Int) (neg neg' : Bool) (a1 a2 a3 a4 : Option Addr) (n1 c1 n2 c2 n3 c3 n4 c4 : Nat) (w : World) (a b c : Bool) (e g n h : Int) : Prop where
  alive : ∀ W, Calls Try.prog 55 #[] W fun e w' => e = .returned (.bool true) ∧ Below W.heap.size W w'
  long1 : ∀ W, Below w.heap.size w W → Calls Try.prog 52 #[.agg #[.bool neg, .slice a1 n1 c1, .slice a2 n2 c2]] W fun e w' => e = .returned (.bool false) ∧ Below W.heap.size W w'
  long2 : ∀ W, Below w.heap.size w W → Calls Try.prog 52 #[.agg #[.bool neg', .slice a3 n3 c3, .slice a4 n4 c4]] W fun e w' => e = .returned (.bool false) ∧ Below W.heap.size W w'
  dueA : ∀ W, Below w.heap.size w W → Calls Try.prog 53 #[.int .i64 l, .int .i64 m, .agg #[.bool neg, .slice a1 n1 c1, .slice a2 n2 c2]] W fun r w' => r = .returned (.tuple #[.bool a, .int .i64 e]) ∧ Below W.heap.size W w'
  dueB : ∀ W, Below w.heap.size w W → Calls Try.prog 53 #[.int .i64 (l + 1), .int .i64 m, .agg #[.bool neg, .slice a1 n1 c1, .slice a2 n2 c2]] W fun r w' => r = .returned (.tuple #[.bool b, .int .i64 e]) ∧ Below W.heap.size W w'
  dueC : ∀ W, Below w.heap.size w W → Calls Try.prog 53 #[.int .i64 l, .int .i64 m, .agg #[.bool neg', .slice a3 n3 c3, .slice a4 n4 c4]] W fun r w' => r = .returned (.tuple #[.bool c, .int .i64 g]) ∧ Below W.heap.size W w'
  cmp : ∀ W, Below w.heap.size w W → Calls Try.prog 56 #[.agg #[.bool neg, .slice a1 n1 c1, .slice a2 n2 c2], .agg #[.bool neg', .slice a3 n3 c3, .slice a4 n4 c4]] W fun r w' => r = .returned (.tuple #[.int .i64 n, .int .i64 h]) ∧ Below W.heap.size W w'
  part : m ≠ 0 → ∀ W, Calls Try.prog 57 #[.int .i64 l, .int .i64 m] W fun e w' => ∃ a c a' c' n n', e = .returned (.tuple #[.agg #[.bool false, .slice a n c, .slice a' n' c'], .int .i64 0]) ∧ Below W.heap.size W w' ∧
    (∀ V, Below w'.heap.size w' V → Calls Try.prog 53 #[.int .i64 l, .int .i64 m, .agg #[.bool false, .slice a n c, .slice a' n' c']] V fun r w' => r = .returned (.tuple #[.bool true, .int .i64 0]) ∧ Below V.heap.size V w') ∧
    (∀ V, Below w'.heap.size w' V → Calls Try.prog 53 #[.int .i64 (l + 1), .int .i64 m, .agg #[.bool false, .slice a n c, .slice a' n' c']] V fun r w' => r = .returned (.tuple #[.bool false, .int .i64 0]) ∧ Below V.heap.size V w')
/-- The truth of the law's first test. -/
def LimitsOk (a b c : Bool) (e g n h : Int) : Prop := e ≠ 0 ∨ ((b = true → a = true) ∧ (g ≠ 0 ∨ h ≠ 0 ∨ 0 < n ∨ a = false ∨ c = true))
theorem LimitsOk.ways {a b c : Bool} {e g n h : Int} (k : LimitsOk a b c e g n h) : e ≠ 0 ∨ (e = 0 ∧ ((a = true ∧ b = true) ∨ (a = true ∧ b = false) ∨ (a = false ∧ b = false)) ∧ (g ≠ 0 ∨ (g = 0 ∧ h ≠ 0) ∨ (g = 0 ∧ h = 0 ∧ 0 < n) ∨ (g = 0 ∧ h = 0 ∧ n ≤ 0 ∧ (a = true → c = true)))) := by
  by_cases he : e = 0
  · rcases k with k | ⟨k, k2⟩
    · exact absurd he k
    refine .inr ⟨he, ?_, ?_⟩
    · cases a <;> cases b <;> simp at k ⊢
    · by_cases hg : g = 0
      · by_cases hh : h = 0
        · by_cases hn : 0 < n
          · exact .inr (.inr (.inl ⟨hg, hh, hn⟩))
          · refine .inr (.inr (.inr ⟨hg, hh, by omega, fun ha => ?_⟩))
            rcases k2 with k | k | k | k | k
            · exact absurd hg k
            · exact absurd hh k
            · exact absurd k hn
            · rw [ha] at k; cases k
            · exact k
        · exact .inr (.inl ⟨hg, hh⟩)
      · exact .inl hg
  · exact .inl he
theorem of_part {l m : Int} (hl0 : 0 ≤ l) (hl : l < 1000000) (h2 : 0 < m) (h3 : m ≤ 1000000) (W : World) :
    Calls Try.prog 57 #[.int .i64 l, .int .i64 m] W fun e w' => ∃ a c a' c' n n', e = .returned (.tuple #[.agg #[.bool false, .slice a n c, .slice a' n' c'], .int .i64 0]) ∧ Below W.heap.size W w' ∧
    (∀ V, Below w'.heap.size w' V → Calls Try.prog 53 #[.int .i64 l, .int .i64 m, .agg #[.bool false, .slice a n c, .slice a' n' c']] V fun r w' => r = .returned (.tuple #[.bool true, .int .i64 0]) ∧ Below V.heap.size V w') ∧
    (∀ V, Below w'.heap.size w' V → Calls Try.prog 53 #[.int .i64 (l + 1), .int .i64 m, .agg #[.bool false, .slice a n c, .slice a' n' c']] V fun r w' => r = .returned (.tuple #[.bool false, .int .i64 0]) ∧ Below V.heap.size V w') := by
  obtain ⟨p, rfl⟩ : ∃ p : Nat, l = p := ⟨l.toNat, by omega⟩
  obtain ⟨q, rfl⟩ : ∃ q : Nat, m = q := ⟨m.toNat, by omega⟩
  have hp : p < 1000000 := by omega
  have hq : 0 < q := by omega
  have hq2 : q ≤ 1000000 := by omega
  refine (ratOf p q W (by omega) (by omega) hq).mono ?_
  rintro e w' ⟨a, c, a', c', rfl, k1, k2, hb⟩
  have hD : ∀ V (k : Nat), Below w'.heap.size w' V → k ≤ 1000000 → Calls Try.prog 53 #[.int .i64 k, .int .i64 q, .agg #[.bool false, .slice a (lim (p / Nat.gcd p q)).length c, .slice a' (lim (q / Nat.gcd p q)).length c']] V fun r w' => r = .returned (.tuple #[.bool (decide (k ≤ p)), .int .i64 0]) ∧ Below V.heap.size V w' := by
    intro V k hV hk
    have h := canvassDue Any Any k q false _ _ _ _ V ((k1.ru).below hV) ((k2.ru).below hV)
    rw [dueR_part hk (by omega) hq hq2] at h
    exact h
  refine ⟨a, c, a', c', _, _, rfl, hb, fun V hV => ?_, fun V hV => ?_⟩
  · have := hD V p hV (by omega)
    rwa [decide_eq_true (Nat.le_refl p)] at this
  · have := hD V (p + 1) hV (by omega)
    rw [decide_eq_false (by omega)] at this
    exact this
set_option maxHeartbeats 4000000 in
set_option maxRecDepth 100000 in
theorem limits_main (l m : Int) (neg neg' : Bool) (a1 a2 a3 a4 : Option Addr) (n1 c1 n2 c2 n3 c3 n4 c4 : Nat) (w : World) (a b c : Bool) (e g n h : Int) (hl0 : 0 ≤ l) (hl : l < 1000000) (hm0 : 0 ≤ m) (hm : m ≤ 1000000)
    (H : LimitsHas l m neg neg' a1 a2 a3 a4 n1 c1 n2 c2 n3 c3 n4 c4 w a b c e g n h) (K : LimitsOk a b c e g n h) :
    Calls Try.prog 9 #[.int .i64 l, .int .i64 m, .agg #[.bool neg, .slice a1 n1 c1, .slice a2 n2 c2], .agg #[.bool neg', .slice a3 n3 c3, .slice a4 n4 c4]] w fun e w' => e = .returned (.bool true) ∧ Below w.heap.size w w' := by
  obtain ⟨W0, hW0⟩ : ∃ W0, W0 = (w.alloc (.cells #[.bool neg, .slice a1 n1 c1, .slice a2 n2 c2] 81)).alloc (.cells #[.bool neg', .slice a3 n3 c3, .slice a4 n4 c4] 81) := ⟨_, rfl⟩
  have hb0 : Below w.heap.size w W0 := by rw [hW0]; exact (below_new w _).alloc (by simp) _
  have hgA : W0.heap[w.heap.size]? = some (.cells #[.bool neg, .slice a1 n1 c1, .slice a2 n2 c2] 81 (0, 0)) := by rw [hW0]; exact box_old _ (box_new w _)
  have hgB : W0.heap[w.heap.size + 1]? = some (.cells #[.bool neg', .slice a3 n3 c3, .slice a4 n4 c4] 81 (0, 0)) := by
    rw [hW0]
    have := box_new (w.alloc (.cells #[.bool neg, .slice a1 n1 c1, .slice a2 n2 c2] 81)) (.cells #[.bool neg', .slice a3 n3 c3, .slice a4 n4 c4] 81)
    rwa [World.size_alloc] at this
  have hz0 : W0.heap.size = w.heap.size + 2 := by rw [hW0]; simp
  have hcell : ∀ W, Below W0.heap.size W0 W → (∀ i, W.cell? ⟨w.heap.size, i, none⟩ = (#[.bool neg, .slice a1 n1 c1, .slice a2 n2 c2] : Array Value)[i]?) ∧ (∀ i, W.cell? ⟨w.heap.size + 1, i, none⟩ = (#[.bool neg', .slice a3 n3 c3, .slice a4 n4 c4] : Array Value)[i]?) := fun W hW => ⟨(own_box hW (by omega) hgA).2.1, (own_box hW (by omega) hgB).2.1⟩
  have hBW : ∀ W, Below W0.heap.size W0 W → Below w.heap.size w W := fun W hW => hb0.trans (hW.mono (by omega))
  have HH := Lib.hid H; have HC := Lib.hid hcell; have HBW := Lib.hid hBW
  have hl0' : ¬ l < 0 := by omega
  have hl1' : ¬ 1000000 ≤ l := by omega
  have hm0' : ¬ m < 0 := by omega
  have hm1' : ¬ 1000000 < m := by omega
  have Kw := Lib.hid K.ways
  have flagA := Lib.hid True.intro; have flagB := Lib.hid True.intro; have flagC := Lib.hid True.intro
  have Hl := Lib.hid hl; have Hm := Lib.hid hm; have Hl0 := Lib.hid hl0; have Hm0 := Lib.hid hm0
  clear hl hm hl0 hm0 H K hcell hBW hgA hgB hz0
  have flagD := Lib.hid True.intro
  subst hW0
  go_enter Try.func9, Try.ntmps9
  go_upto_region 8 with (first
    | (go_at_call 55; refine (HH.out.alive _).mono ?_; rintro r w1 ⟨rfl, hb1⟩; have hz1 := hb1.size; have hcx1 := HC.out _ hb1; obtain ⟨hcA1, hcB1⟩ := hcx1)
    | (go_at_call_of 52 (a1); refine (HH.out.long1 _ (HBW.out _ hb1)).mono ?_; rintro r w2 ⟨rfl, hb2⟩; have hp2 := hb1.trans (hb2.mono hz1); have hz2 := hp2.size; obtain ⟨hcA2, hcB2⟩ := HC.out _ hp2)
    | (go_at_call_of 52 (a3); refine (HH.out.long2 _ (HBW.out _ hp2)).mono ?_; rintro r w3 ⟨rfl, hb3⟩; have hp3 := hp2.trans (hb3.mono hz2); have hz3 := hp3.size; obtain ⟨hcA3, hcB3⟩ := HC.out _ hp3)
    | (go_at_call 53; clear flagA; refine (HH.out.dueA _ (HBW.out _ hp3)).mono ?_; rintro r w4 ⟨rfl, hb4⟩; have hp4 := hp3.trans (hb4.mono hz3); have hz4 := hp4.size; obtain ⟨hcA4, hcB4⟩ := HC.out _ hp4)
    | (go_at_call 53; clear flagB; refine (HH.out.dueB _ (HBW.out _ hp4)).mono ?_; rintro r w5 ⟨rfl, hb5⟩; have hp5 := hp4.trans (hb5.mono hz4); have hz5 := hp5.size; obtain ⟨hcA5, hcB5⟩ := HC.out _ hp5)
    | (go_at_call 53; clear flagC; refine (HH.out.dueC _ (HBW.out _ hp5)).mono ?_; rintro r w6 ⟨rfl, hb6⟩; have hp6 := hp5.trans (hb6.mono hz5); have hz6 := hp6.size; obtain ⟨hcA6, hcB6⟩ := HC.out _ hp6)
    | (go_at_call 56; refine (HH.out.cmp _ (HBW.out _ hp6)).mono ?_; rintro r w7 ⟨rfl, hb7⟩; have hp7 := hp6.trans (hb7.mono hz6); have hz7 := hp7.size; obtain ⟨hcA7, hcB7⟩ := HC.out _ hp7))
  go_cut [116] from 24 to 160 (fun s116 wc => s116 = .bool false ∧ wc = w7)
  case first =>
    rcases Kw.out with k | ⟨rfl, kab, k⟩
    · have hk : (e == 0) = false := beq_eq_false_iff_ne.2 k
      have Hk := Lib.hid k; clear k Kw
      go_wp2_with fail
      go_meet
      exact ⟨rfl, rfl⟩
    · clear Kw
      rcases kab with ⟨rfl, rfl⟩ | ⟨rfl, rfl⟩ | ⟨rfl, rfl⟩ <;> rcases k with k | ⟨rfl, k⟩ | ⟨rfl, rfl, k⟩ | ⟨rfl, rfl, k, kc⟩
      all_goals first
        | (have hk : (g == 0) = false := beq_eq_false_iff_ne.2 k; have Hk := Lib.hid k; clear k)
        | (have hk : (h == 0) = false := beq_eq_false_iff_ne.2 k; have Hk := Lib.hid k; clear k)
        | (obtain rfl := kc rfl)
        | (clear kc)
        | skip
      all_goals
        go_wp2_with fail
        go_meet
        exact ⟨rfl, rfl⟩
  case rest =>
    obtain ⟨rfl, rfl⟩ := hcut
    clear Kw
    by_cases hmz : m = 0
    · have hmb : (m == 0) = true := beq_iff_eq.2 hmz
      have Hmz := Lib.hid hmz; clear hmz
      go_wp2_with fail
      go_ret
      exact ⟨rfl, HBW.out _ hp7⟩
    · have hmb : (m == 0) = false := beq_eq_false_iff_ne.2 hmz
      have Hmz := Lib.hid hmz; clear hmz
      go_wp2_with (first
        | (go_at_call 57; refine (HH.out.part Hmz.out _).mono ?_; rintro r w8 ⟨a5, c5, a6, c6, n5, n6, rfl, hb8, hd5, hd6⟩; have hp8 := hp7.trans (hb8.mono hz7); have hz8 := hp8.size; have gx8 := box_new w8 (.cells #[.bool false, .slice a5 n5 c5, .slice a6 n6 c6] 81); have hbx8 := below_new w8 (.cells #[.bool false, .slice a5 n5 c5, .slice a6 n6 c6] 81); have Hd5 := Lib.hid hd5; have Hd6 := Lib.hid hd6; have Hgx8 := Lib.hid gx8; clear hd5 hd6 gx8)
        | (go_at_call 53; clear flagD; refine (Hd5.out _ hbx8).mono ?_; rintro r w9 ⟨rfl, hb9⟩; obtain ⟨gx9, hc9, hf9⟩ := own_box hb9 (by simp) Hgx8.out; have hq9 := hbx8.trans (hb9.mono (by simp)); have hz9 := hq9.size)
        | (go_at_call 53; refine (Hd6.out _ hq9).mono ?_; rintro r w10 ⟨rfl, hb10⟩; have hq10 := hq9.trans (hb10.mono hz9); have hp10 := hp8.trans (hq10.mono hz8)))
      go_ret
      exact ⟨rfl, HBW.out _ hp10⟩
set_option maxHeartbeats 4000000 in
set_option maxRecDepth 100000 in
theorem limits_skip (l m : Int) (neg neg' : Bool) (a1 a2 a3 a4 : Option Addr) (n1 c1 n2 c2 n3 c3 n4 c4 : Nat) (w : World) (b1 b2 : Bool)
    (hlong1 : ∀ W, Below w.heap.size w W → Calls Try.prog 52 #[.agg #[.bool neg, .slice a1 n1 c1, .slice a2 n2 c2]] W fun e w' => e = .returned (.bool b1) ∧ Below W.heap.size W w')
    (hlong2 : ∀ W, Below w.heap.size w W → Calls Try.prog 52 #[.agg #[.bool neg', .slice a3 n3 c3, .slice a4 n4 c4]] W fun e w' => e = .returned (.bool b2) ∧ Below W.heap.size W w')
    (hs : b1 = true ∨ b2 = true ∨ l < 0 ∨ 1000000 ≤ l ∨ m < 0 ∨ 1000000 < m) :
    Calls Try.prog 9 #[.int .i64 l, .int .i64 m, .agg #[.bool neg, .slice a1 n1 c1, .slice a2 n2 c2], .agg #[.bool neg', .slice a3 n3 c3, .slice a4 n4 c4]] w fun e w' => e = .returned (.bool true) ∧ Below w.heap.size w w' := by
  obtain ⟨W0, hW0⟩ : ∃ W0, W0 = (w.alloc (.cells #[.bool neg, .slice a1 n1 c1, .slice a2 n2 c2] 81)).alloc (.cells #[.bool neg', .slice a3 n3 c3, .slice a4 n4 c4] 81) := ⟨_, rfl⟩
  have hb0 : Below w.heap.size w W0 := by rw [hW0]; exact (below_new w _).alloc (by simp) _
  have hgA : W0.heap[w.heap.size]? = some (.cells #[.bool neg, .slice a1 n1 c1, .slice a2 n2 c2] 81 (0, 0)) := by rw [hW0]; exact box_old _ (box_new w _)
  have hgB : W0.heap[w.heap.size + 1]? = some (.cells #[.bool neg', .slice a3 n3 c3, .slice a4 n4 c4] 81 (0, 0)) := by
    rw [hW0]
    have := box_new (w.alloc (.cells #[.bool neg, .slice a1 n1 c1, .slice a2 n2 c2] 81)) (.cells #[.bool neg', .slice a3 n3 c3, .slice a4 n4 c4] 81)
    rwa [World.size_alloc] at this
  have hz0 : W0.heap.size = w.heap.size + 2 := by rw [hW0]; simp
  have hcell : ∀ W, Below W0.heap.size W0 W → (∀ i, W.cell? ⟨w.heap.size, i, none⟩ = (#[.bool neg, .slice a1 n1 c1, .slice a2 n2 c2] : Array Value)[i]?) ∧ (∀ i, W.cell? ⟨w.heap.size + 1, i, none⟩ = (#[.bool neg', .slice a3 n3 c3, .slice a4 n4 c4] : Array Value)[i]?) := fun W hW => ⟨(own_box hW (by omega) hgA).2.1, (own_box hW (by omega) hgB).2.1⟩
  have hBW : ∀ W, Below W0.heap.size W0 W → Below w.heap.size w W := fun W hW => hb0.trans (hW.mono (by omega))
  have HL1 := Lib.hid hlong1; have HL2 := Lib.hid hlong2; have HC := Lib.hid hcell; have HBW := Lib.hid hBW; have Hs := Lib.hid hs
  clear hlong1 hlong2 hcell hBW hgA hgB hz0 hs
  cases b1
  case true =>
    clear Hs
    subst hW0
    go_enter Try.func9, Try.ntmps9
    go_wp2_with (first
      | (go_at_call 55; refine (alive27 _).mono ?_; rintro r w1 ⟨rfl, hb1⟩; have hz1 := hb1.size; obtain ⟨hcA1, hcB1⟩ := HC.out _ hb1)
      | (go_at_call_of 52 (a1); refine (HL1.out _ (HBW.out _ hb1)).mono ?_; rintro r w2 ⟨rfl, hb2⟩; have hp2 := hb1.trans (hb2.mono hz1)))
    go_ret
    exact ⟨rfl, HBW.out _ hp2⟩
  cases b2
  case true =>
    clear Hs
    subst hW0
    go_enter Try.func9, Try.ntmps9
    go_wp2_with (first
      | (go_at_call 55; refine (alive27 _).mono ?_; rintro r w1 ⟨rfl, hb1⟩; have hz1 := hb1.size; obtain ⟨hcA1, hcB1⟩ := HC.out _ hb1)
      | (go_at_call_of 52 (a1); refine (HL1.out _ (HBW.out _ hb1)).mono ?_; rintro r w2 ⟨rfl, hb2⟩; have hp2 := hb1.trans (hb2.mono hz1); have hz2 := hp2.size; obtain ⟨hcA2, hcB2⟩ := HC.out _ hp2)
      | (go_at_call_of 52 (a3); refine (HL2.out _ (HBW.out _ hp2)).mono ?_; rintro r w3 ⟨rfl, hb3⟩; have hp3 := hp2.trans (hb3.mono hz2)))
    go_ret
    exact ⟨rfl, HBW.out _ hp3⟩
  have hk : (l < 0) ∨ (¬ l < 0 ∧ 1000000 ≤ l) ∨ (¬ l < 0 ∧ ¬ 1000000 ≤ l ∧ m < 0) ∨ (¬ l < 0 ∧ ¬ 1000000 ≤ l ∧ ¬ m < 0 ∧ 1000000 < m) := by
    have := Hs.out
    simp only [Bool.false_eq_true, false_or] at this
    omega
  clear Hs
  subst hW0
  rcases hk with k1 | ⟨k1, k2⟩ | ⟨k1, k2, k3⟩ | ⟨k1, k2, k3, k4⟩
  all_goals
    go_enter Try.func9, Try.ntmps9
    go_wp2_with (first
      | (go_at_call 55; refine (alive27 _).mono ?_; rintro r w1 ⟨rfl, hb1⟩; have hz1 := hb1.size; obtain ⟨hcA1, hcB1⟩ := HC.out _ hb1)
      | (go_at_call_of 52 (a1); refine (HL1.out _ (HBW.out _ hb1)).mono ?_; rintro r w2 ⟨rfl, hb2⟩; have hp2 := hb1.trans (hb2.mono hz1); have hz2 := hp2.size; obtain ⟨hcA2, hcB2⟩ := HC.out _ hp2)
      | (go_at_call_of 52 (a3); refine (HL2.out _ (HBW.out _ hp2)).mono ?_; rintro r w3 ⟨rfl, hb3⟩; have hp3 := hp2.trans (hb3.mono hz2)))
    go_ret
    exact ⟨rfl, HBW.out _ hp3⟩
theorem law_limits (u v : Value) (l m : Int) (x y : Rt) (w : World) (_h1 : (Lit.int .i64 l).wf = true) (_h2 : (Lit.int .i64 m).wf = true) (hx : VRat w u x) (hy : VRat w v y) :
    Calls Try.prog 9 #[.int .i64 l, .int .i64 m, u, v] w fun e w' => e = .returned (.bool true) ∧ Below w.heap.size w w' := by
  have hL1 := fun W (hW : Below w.heap.size w W) => r4Long u x W (hx.below hW)
  have hL2 := fun W (hW : Below w.heap.size w W) => r4Long v y W (hy.below hW)
  obtain ⟨vn, vd, rfl, h1, h2⟩ := hx
  obtain ⟨vn', vd', rfl, h3, h4⟩ := hy
  have hlx : Lim x.num ∧ Lim x.den := ⟨RU.lim h1, RU.lim h2⟩
  have hly : Lim y.num ∧ Lim y.den := ⟨RU.lim h3, RU.lim h4⟩
  obtain ⟨a1, c1, rfl, -, -⟩ := RSl.shape h1
  obtain ⟨a2, c2, rfl, -, -⟩ := RSl.shape h2
  obtain ⟨a3, c3, rfl, -, -⟩ := RSl.shape h3
  obtain ⟨a4, c4, rfl, -, -⟩ := RSl.shape h4
  by_cases hs : longR x = true ∨ longR y = true ∨ l < 0 ∨ 1000000 ≤ l ∨ m < 0 ∨ 1000000 < m
  · exact limits_skip l m x.neg y.neg a1 a2 a3 a4 _ c1 _ c2 _ c3 _ c4 w _ _ hL1 hL2 hs
  · simp only [not_or, Bool.not_eq_true, Int.not_lt, Int.not_le] at hs
    obtain ⟨k1, k2, k3, k4, k5, k6⟩ := hs
    rw [k1] at hL1
    rw [k2] at hL2
    obtain ⟨m1, m2⟩ := dueR_more (l := l) (m := m) x k3 k4
    refine limits_main l m x.neg y.neg a1 a2 a3 a4 _ c1 _ c2 _ c3 _ c4 w (dueR l m x.neg x.num x.den).1 (dueR (l + 1) m x.neg x.num x.den).1 (dueR l m y.neg y.num y.den).1 (dueR l m x.neg x.num x.den).2 (dueR l m y.neg y.num y.den).2 (cmpRat x.neg y.neg x.num x.den y.num y.den).1 (cmpRat x.neg y.neg x.num x.den y.num y.den).2 k3 k4 k5 k6
      ⟨alive27, hL1, hL2, fun W hW => canvassDue Any Any l m x.neg _ _ _ _ W (h1.below hW) (h2.below hW), fun W hW => ?_, fun W hW => canvassDue Any Any l m y.neg _ _ _ _ W (h3.below hW) (h4.below hW),
        fun W hW => ratCmp Any Any Any Any x.neg y.neg _ _ _ _ _ _ _ _ W (h1.below hW) (h2.below hW) (h3.below hW) (h4.below hW), fun hm W => of_part k3 k4 (by omega) k6 W⟩ ?_
    · have := canvassDue Any Any (l + 1) m x.neg _ _ _ _ W (h1.below hW) (h2.below hW)
      rw [m1]
      exact this
    · by_cases he : (dueR l m x.neg x.num x.den).2 = 0
      · refine .inr ⟨m2 he, ?_⟩
        by_cases hg : (dueR l m y.neg y.num y.den).2 = 0
        · by_cases hn : 0 < (cmpRat x.neg y.neg x.num x.den y.num y.den).1
          · exact .inr (.inr (.inl hn))
          · cases ha : (dueR l m x.neg x.num x.den).1
            · exact .inr (.inr (.inr (.inl rfl)))
            · exact .inr (.inr (.inr (.inr (dueR_limit hlx hly he hg (by omega) ha))))
        · exact .inl hg
      · exact .inl he
end Go.Proofs.Ytkjgddcjhikdgaa

namespace Go.Proofs.Ytkjgddcjhikdgaa
open Go Go.RowKit Go.ChangeShapes Go.WideShapes Go.ChangeAt

set_option maxRecDepth 100000 in
theorem canvassLimits_lifted (os : Os) (started : os.Started) (H : Type) (enc : TypeId × Value → H) :
    ReturnsInHanded {} Try.checked os 9 .any (Rows.canvassLimitsSpec.pre6 enc Try.prog Try.f9 Rows.canvassLimitsRow.domain false) (Rows.canvassLimitsSpec.post enc Try.prog Try.f9 false true false false) := by
  refine returnsInHanded_of_change_sized (C := Try.checked) Try.own started (by kernel_rfl) Try.func9
    (ChangeSpec.witness6 (enc := enc) (C := Try.checked) false ⟨#[], #[.int .i64 0, .int .i64 0, .agg #[.bool false, .slice none 0 0, .slice none 0 0], .agg #[.bool false, .slice none 0 0, .slice none 0 0]], []⟩ 8 (by kernel_rfl) (by kernel_rfl) (by kernel_rfl) (by kernel_rfl)) ?_
  intro W base args ds gs before hval0 hW hcnd hsz0 _
  have hval : ∀ (j : Nat) t v, Try.f9.params[j]? = some t → args[j]? = some v → Value.okWide Try.prog W .any base t v := hval0
  have hsz : (DataW.weightsEach Try.prog (Try.f9.params.toList ++ Rows.canvassLimitsSpec.plain.varTypes Try.prog) (ds ++ gs)).all (· ≤ reachBytes) = true := hsz0
  have hW' := hW
  obtain ⟨p, q, hA0, hV, rfl, hfz, hnd⟩ := hW
  have hA : DataW.TrodAll enc Try.prog W 0 (fun _ => true) true Try.f9.params.toList args.toList ds p := hA0
  rw [Try.params9] at hA hval hsz
  obtain ⟨v0, vs0, d0, ds0, p0, q0, hargs, rfl, rfl, h0, r0⟩ := trodAll_cons hA
  obtain ⟨v1, vs1, d1, ds1, p1, q1, rfl, rfl, rfl, h1, r1⟩ := trodAll_cons r0
  obtain ⟨v2, vs2, d2, ds2, p2, q2, rfl, rfl, rfl, h2, r2⟩ := trodAll_cons r1
  obtain ⟨v3, vs3, d3, ds3, p3, q3, rfl, rfl, rfl, h3, r3⟩ := trodAll_cons r2
  obtain ⟨rfl, rfl, rfl⟩ := trodAll_nil r3
  obtain rfl : args = #[v0, v1, v2, v3] := by cases args; simp_all
  obtain ⟨rfl, rfl⟩ := trodVars_none hV
  have k0 := h0
  have k1 := h1
  have k2 := h2
  have k3 := h3
  have lt0 : ∀ x ∈ p0, x.block < W.heap.size := by obtain ⟨m, hm⟩ := k0; exact DataW.trod_lt m _ _ _ hm
  have lt1 : ∀ x ∈ p1, x.block < W.heap.size := by obtain ⟨m, hm⟩ := k1; exact DataW.trod_lt m _ _ _ hm
  have lt2 : ∀ x ∈ p2, x.block < W.heap.size := by obtain ⟨m, hm⟩ := k2; exact DataW.trod_lt m _ _ _ hm
  have lt3 : ∀ x ∈ p3, x.block < W.heap.size := by obtain ⟨m, hm⟩ := k3; exact DataW.trod_lt m _ _ _ hm
  obtain ⟨x0, rfl, e0, e0', wf0⟩ := open_int Try.underlying3 (hval 0 _ v0 rfl rfl) h0
  obtain ⟨x1, rfl, e1, e1', wf1⟩ := open_int Try.underlying3 (hval 1 _ v1 rfl rfl) h1
  obtain ⟨x2, y2⟩ := arg_ratio (hval 2 _ v2 rfl rfl) h2 (weights_at hsz 2 rfl rfl)
  obtain ⟨x3, y3⟩ := arg_ratio (hval 3 _ v3 rfl rfl) h3 (weights_at hsz 3 rfl rfl)
  clear hA0 hval0
  refine (law_limits v2 v3 x0 x1 x2 x3 W wf0 wf1 y2 y3).mono fun e W' ⟨he, bel⟩ => ?_
  subst he
  exact ⟨_, rfl, _, _, _, [], _, [], hW', trodAll_mk1 (shut_bool Try.underlying4 _), (trodAll_cons_mk (Below.trod Try.laidOut (by kernel_rfl) (of_decide_eq_true (by kernel_rfl)) k0 bel lt0) (trodAll_cons_mk (Below.trod Try.laidOut (by kernel_rfl) (of_decide_eq_true (by kernel_rfl)) k1 bel lt1) (trodAll_cons_mk (Below.trod Try.laidOut (by kernel_rfl) (of_decide_eq_true (by kernel_rfl)) k2 bel lt2) (trodAll_cons_mk (Below.trod Try.laidOut (by kernel_rfl) (of_decide_eq_true (by kernel_rfl)) k3 bel lt3) trodAll_mk0)))), rfl, bel.frame _, fun h => by cases h⟩

theorem canvassLimits_named : Try.prog.funcNamed Rows.canvassLimitsRow.func = some 9 := by kernel_rfl
theorem canvassLimits_facts : joinedFacts Try.prog 9 Try.f9 Rows.canvassLimitsSpec Rows.canvassLimitsRow = true := by kernel_rfl
theorem canvassLimits_inst : Try.f9.isInstance Try.prog Rows.canvassLimitsRow.origin Rows.canvassLimitsRow.targs := of_decide_eq_true (by kernel_rfl)
theorem canvassLimits_wrap : Try.f9.isWrapper Try.prog Rows.canvassLimitsRow.wrapper Rows.canvassLimitsRow.mainSum := by
  unfold Func.isWrapper
  rw [if_neg (of_decide_eq_false (by kernel_rfl))]
  exact ⟨rfl, rfl⟩
theorem canvassLimits_holds : Rows.CanvassLimitsSaid :=
  OpenClaim.holds_of_wide 9 Try.f9 rfl rfl rfl rfl rfl rfl rfl ⟨rfl, rfl, rfl, rfl, rfl⟩ rfl rfl rfl rfl rfl canvassLimits_named Try.func9 canvassLimits_facts
    canvassLimits_inst canvassLimits_wrap
    (fun os started H enc _ => canvassLimits_lifted os started H enc)
#print axioms canvassLimits_holds
end Go.Proofs.Ytkjgddcjhikdgaa
