/- Texts of one claim, put together: Limb, Arr, Nat1, Nat2, Nat3, Nat4, Nat5, Nat6, Nat7, NatL, Nat8, Nat9, Nat10, Nat11. -/
import Derived.Test.YtogngcbflhdadaaGreatFGFoot
import Derived.Test.YtogngcbflhdadaaGreatFGPut
import Derived.Test.YtogngcbflhdadaaGreatFGSame
import Derived.Test.YtogngcbflhdadaaGreatShelf
import Derived.Laws.BitsAllLaws
import Derived.Deep.OwnRows
import Derived.Laws.OwnMore
import Derived.Laws.CopyOwn
import Derived.Laws.MathBits

/- Natural numbers as lists of limbs of 32 bits, the least first: plain laws. -/
namespace Go.Proofs.YtogngcbflhdadaaGreat.Limb

def pw (n : Nat) : Int := 4294967296 ^ n
theorem pw_zero : pw 0 = 1 := rfl
theorem pw_succ (n : Nat) : pw (n + 1) = 4294967296 * pw n := by unfold pw; rw [Int.pow_succ, Int.mul_comm]
theorem pw_pos (n : Nat) : 0 < pw n := by
  induction n with
  | zero => decide
  | succ n ih => rw [pw_succ]; omega
theorem pw_mono {m n : Nat} (h : m ≤ n) : pw m ≤ pw n := by
  obtain ⟨k, rfl⟩ := Nat.exists_eq_add_of_le h
  induction k with
  | zero => exact Int.le_refl _
  | succ k ih => have := pw_pos (m + k); rw [← Nat.add_assoc, pw_succ]; have := ih (by omega); omega

def val : List Int → Int
  | [] => 0
  | x :: xs => x + 4294967296 * val xs
def Lim (xs : List Int) : Prop := ∀ x ∈ xs, 0 ≤ x ∧ x < 4294967296
theorem Lim.nil : Lim [] := fun _ h => by cases h
theorem Lim.cons {x : Int} {xs : List Int} : Lim (x :: xs) ↔ (0 ≤ x ∧ x < 4294967296) ∧ Lim xs := by simp [Lim]
theorem Lim.append {xs ys : List Int} : Lim (xs ++ ys) ↔ Lim xs ∧ Lim ys := by
  constructor
  · intro h; exact ⟨fun x hx => h x (by simp [hx]), fun x hx => h x (by simp [hx])⟩
  · rintro ⟨h, k⟩ x hx
    rcases List.mem_append.1 hx with hx | hx
    · exact h x hx
    · exact k x hx
theorem Lim.take {xs : List Int} (h : Lim xs) (n : Nat) : Lim (xs.take n) := fun x hx => h x (List.mem_of_mem_take hx)
theorem Lim.drop {xs : List Int} (h : Lim xs) (n : Nat) : Lim (xs.drop n) := fun x hx => h x (List.mem_of_mem_drop hx)
theorem Lim.get {xs : List Int} (h : Lim xs) {i : Nat} (hi : i < xs.length) : 0 ≤ xs[i] ∧ xs[i] < 4294967296 := h _ (List.getElem_mem hi)
theorem Lim.getD {xs : List Int} (h : Lim xs) (i : Nat) : 0 ≤ xs.getD i 0 ∧ xs.getD i 0 < 4294967296 := by
  by_cases hi : i < xs.length
  · simp only [List.getD, List.getElem?_eq_getElem hi, Option.getD_some]; exact h.get hi
  · simp [List.getD, List.getElem?_eq_none (Nat.le_of_not_lt hi)]
theorem Lim.set {xs : List Int} (h : Lim xs) (i : Nat) {y : Int} (hy : 0 ≤ y ∧ y < 4294967296) : Lim (xs.set i y) := by
  intro x hx
  rcases List.mem_or_eq_of_mem_set hx with hx | rfl
  · exact h x hx
  · exact hy
theorem Lim.zeros (n : Nat) : Lim (List.replicate n 0) := by
  intro x hx; have := List.eq_of_mem_replicate hx; omega

theorem val_nonneg : ∀ {xs : List Int}, Lim xs → 0 ≤ val xs
  | [], _ => Int.le_refl _
  | x :: xs, h => by have := val_nonneg (Lim.cons.1 h).2; have := (Lim.cons.1 h).1; simp only [val]; omega
theorem val_lt : ∀ {xs : List Int}, Lim xs → val xs < pw xs.length
  | [], _ => by decide
  | x :: xs, h => by
    have := val_lt (Lim.cons.1 h).2
    have := (Lim.cons.1 h).1
    rw [List.length_cons, pw_succ]; simp only [val]; omega
theorem val_append (xs ys : List Int) : val (xs ++ ys) = val xs + pw xs.length * val ys := by
  induction xs with
  | nil => simp [val, pw_zero]
  | cons x xs ih =>
    simp only [List.cons_append, val, ih, List.length_cons, pw_succ]
    grind
theorem val_single (x : Int) : val [x] = x := by simp [val]
theorem val_snoc (xs : List Int) (y : Int) : val (xs ++ [y]) = val xs + pw xs.length * y := by rw [val_append, val_single]
theorem val_zeros (n : Nat) : val (List.replicate n 0) = 0 := by
  induction n with
  | zero => rfl
  | succ n ih => simp [List.replicate_succ, val, ih]
theorem val_take_drop (xs : List Int) (n : Nat) (h : n ≤ xs.length) : val xs = val (xs.take n) + pw n * val (xs.drop n) := by
  have h2 := val_append (xs.take n) (xs.drop n)
  rw [List.take_append_drop, List.length_take, Nat.min_eq_left h] at h2
  exact h2
theorem val_drop_at {xs : List Int} {i : Nat} (h : i < xs.length) : val (xs.drop i) = xs[i] + 4294967296 * val (xs.drop (i + 1)) := by
  rw [List.drop_eq_getElem_cons h]; rfl
theorem val_take_succ {xs : List Int} {i : Nat} (h : i < xs.length) : val (xs.take (i + 1)) = val (xs.take i) + pw i * xs[i] := by
  rw [List.take_succ_eq_append_getElem h, val_snoc, List.length_take, Nat.min_eq_left (Nat.le_of_lt h)]
theorem val_take_getD (xs : List Int) (i : Nat) : val (xs.take (i + 1)) = val (xs.take i) + pw i * xs.getD i 0 := by
  by_cases h : i < xs.length
  · rw [val_take_succ h]; simp [List.getD, h]
  · rw [List.take_of_length_le (by omega), List.take_of_length_le (by omega)]
    simp [List.getD, List.getElem?_eq_none (Nat.le_of_not_lt h)]
theorem val_set {xs : List Int} {i : Nat} (h : i < xs.length) (y : Int) : val (xs.set i y) = val xs + pw i * (y - xs[i]) := by
  induction xs generalizing i with
  | nil => cases h
  | cons x xs ih =>
    cases i with
    | zero => simp only [List.set_cons_zero, val, List.getElem_cons_zero, pw_zero]; omega
    | succ i =>
      simp only [List.set_cons_succ, val, List.getElem_cons_succ, pw_succ]
      rw [ih (by simpa using h)]
      grind

/-- The limbs of a number. -/
def lim (n : Nat) : List Int := if h : n = 0 then [] else ((n % 4294967296 : Nat) : Int) :: lim (n / 4294967296)
termination_by n
decreasing_by omega
theorem lim_zero : lim 0 = [] := by rw [lim]; simp
theorem lim_pos {n : Nat} (h : n ≠ 0) : lim n = ((n % 4294967296 : Nat) : Int) :: lim (n / 4294967296) := by rw [lim]; simp [h]
theorem lim_small {n : Nat} (h0 : n ≠ 0) (h : n < 4294967296) : lim n = [(n : Int)] := by
  rw [lim_pos h0, Nat.div_eq_of_lt h, lim_zero, Nat.mod_eq_of_lt h]
theorem lim_Lim (n : Nat) : Lim (lim n) := by
  induction n using Nat.strongRecOn with
  | ind n ih =>
    by_cases h : n = 0
    · subst h; rw [lim_zero]; exact Lim.nil
    · rw [lim_pos h, Lim.cons]
      refine ⟨by omega, ih _ (by omega)⟩
theorem val_lim (n : Nat) : val (lim n) = (n : Int) := by
  induction n using Nat.strongRecOn with
  | ind n ih =>
    by_cases h : n = 0
    · subst h; rw [lim_zero]; rfl
    · rw [lim_pos h, val, ih _ (by omega)]; omega
theorem lim_eq_nil {n : Nat} : lim n = [] ↔ n = 0 := by
  constructor
  · intro h; by_cases h0 : n = 0
    · exact h0
    · rw [lim_pos h0] at h; cases h
  · rintro rfl; exact lim_zero
theorem lim_inj {m n : Nat} (h : lim m = lim n) : m = n := by
  have := congrArg val h
  rw [val_lim, val_lim] at this
  omega
theorem lim_last {n : Nat} (h : lim n ≠ []) : (lim n).getLast h ≠ 0 := by
  induction n using Nat.strongRecOn with
  | ind n ih =>
    have h0 : n ≠ 0 := fun e => h (lim_eq_nil.2 e)
    by_cases h1 : n / 4294967296 = 0
    · have : lim n = [((n % 4294967296 : Nat) : Int)] := by rw [lim_pos h0, h1, lim_zero]
      simp only [this, List.getLast_singleton]
      omega
    · have hne : lim (n / 4294967296) ≠ [] := fun e => h1 (lim_eq_nil.1 e)
      have := ih _ (by omega) hne
      simp only [lim_pos h0, List.getLast_cons hne]
      exact this
/-- A list without a leading zero is the limbs of its value. -/
theorem eq_lim {xs : List Int} (hl : Lim xs) (h : ∀ h0 : xs ≠ [], xs.getLast h0 ≠ 0) : xs = lim (val xs).toNat := by
  induction xs with
  | nil => simp [val, lim_zero]
  | cons x xs ih =>
    obtain ⟨hx, hxs⟩ := Lim.cons.1 hl
    have h1 : ∀ h0 : xs ≠ [], xs.getLast h0 ≠ 0 := fun h0 => by have := h (by simp); rwa [List.getLast_cons h0] at this
    have h2 := ih hxs h1
    have h3 := val_nonneg hxs
    have hpos : (val (x :: xs)).toNat ≠ 0 := by
      intro e
      simp only [val] at e
      have hv : val xs = 0 := by omega
      have hx0 : x = 0 := by omega
      rw [hv] at h2
      have : xs = [] := by rw [h2]; exact lim_zero
      subst this
      exact h (by simp) (by simpa using hx0)
    rw [lim_pos hpos]
    have e1 : (((val (x :: xs)).toNat % 4294967296 : Nat) : Int) = x := by simp only [val]; omega
    have e2 : (val (x :: xs)).toNat / 4294967296 = (val xs).toNat := by simp only [val]; omega
    rw [e1, e2, ← h2]
/-- What is left when leading zeros are dropped. -/
theorem trim_eq {xs : List Int} (hl : Lim xs) {k : Nat} (hk : k ≤ xs.length) (hz : ∀ i (h : i < xs.length), k ≤ i → xs[i] = 0) (hn : ∀ h : 0 < k, xs[k - 1] ≠ 0) : xs.take k = lim (val xs).toNat := by
  have hd : xs.drop k = List.replicate (xs.length - k) 0 := by
    apply List.ext_getElem
    · simp
    · intro i h1 h2
      simp only [List.getElem_drop, List.getElem_replicate]
      exact hz _ (by simp at h1; omega) (by omega)
  have hv : val xs = val (xs.take k) := by
    rw [val_take_drop xs k hk, hd, val_zeros]; omega
  rw [hv]
  refine eq_lim (hl.take k) fun h0 => ?_
  have hk0 : 0 < k := by
    rcases Nat.eq_zero_or_pos k with rfl | h
    · simp at h0
    · exact h
  rw [List.getLast_eq_getElem]
  simp only [List.getElem_take, List.length_take, Nat.min_eq_left hk]
  exact hn hk0
theorem lim_length_le {n k : Nat} (h : (n : Int) < pw k) : (lim n).length ≤ k := by
  induction k generalizing n with
  | zero => rw [pw_zero] at h; have : n = 0 := by omega
            subst this; simp [lim_zero]
  | succ k ih =>
    by_cases h0 : n = 0
    · subst h0; simp [lim_zero]
    · rw [lim_pos h0, List.length_cons]
      rw [pw_succ] at h
      have := ih (n := n / 4294967296) (by omega)
      omega
theorem lt_of_lim (n : Nat) : (n : Int) < pw (lim n).length := by have := val_lt (lim_Lim n); rwa [val_lim] at this
theorem lim_length_mono {m n : Nat} (h : m ≤ n) : (lim m).length ≤ (lim n).length := lim_length_le (Int.lt_of_le_of_lt (Int.ofNat_le.2 h) (lt_of_lim n))
theorem lt_of_length {m n : Nat} (h : (lim m).length < (lim n).length) : m < n := by
  rcases Nat.lt_or_ge m n with h1 | h1
  · exact h1
  · have := lim_length_mono h1; omega
/-- Two lists that agree above place i are ordered as their limbs at i. -/
theorem val_lt_of {xs ys : List Int} (hx : Lim xs) (hy : Lim ys) {i : Nat} (h1 : i < xs.length) (h2 : i < ys.length) (hd : xs.drop (i + 1) = ys.drop (i + 1)) (hlt : xs[i] < ys[i]) : val xs < val ys := by
  rw [val_take_drop xs i (by omega), val_take_drop ys i (by omega), val_drop_at h1, val_drop_at h2, hd]
  have k1 := val_lt (hx.take i)
  have k2 := val_nonneg (hy.take i)
  rw [List.length_take, Nat.min_eq_left (by omega)] at k1
  have k3 : pw i * (xs[i] + 4294967296 * val (ys.drop (i + 1))) + pw i ≤ pw i * (ys[i] + 4294967296 * val (ys.drop (i + 1))) := by
    have : pw i * (xs[i] + 4294967296 * val (ys.drop (i + 1))) + pw i = pw i * (xs[i] + 4294967296 * val (ys.drop (i + 1)) + 1) := by grind
    rw [this]
    exact Int.mul_le_mul_of_nonneg_left (by omega) (Int.le_of_lt (pw_pos i))
  omega
theorem mul_le {a b c : Int} (hc : 0 ≤ c) (h : a ≤ b) : a * c ≤ b * c := Int.mul_le_mul_of_nonneg_right h hc
theorem lt_of_mul {a b c : Int} (hc : 0 ≤ c) (h : a * c < b * c) : a < b := by
  rcases Int.lt_or_le a b with h1 | h1
  · exact h1
  · have := mul_le hc h1; omega

/-! The estimate of a digit (Knuth's D). P: the weight of the limbs below the two (three) leading ones. -/
structure Guess (un u1 u2 v1 v2 P U V : Int) : Prop where
  hP : 0 < P
  n0 : 0 ≤ un
  a0 : 0 ≤ u1
  a1 : u1 < 4294967296
  b0 : 0 ≤ u2
  b1 : u2 < 4294967296
  c0 : 2147483648 ≤ v1
  c1 : v1 < 4294967296
  d0 : 0 ≤ v2
  d1 : v2 < 4294967296
  vlo : (v1 * 4294967296 + v2) * P ≤ V
  vhi : V < (v1 * 4294967296 + v2 + 1) * P
  ulo : ((un * 4294967296 + u1) * 4294967296 + u2) * P ≤ U
  uhi : U < ((un * 4294967296 + u1) * 4294967296 + u2 + 1) * P
  small : U < V * 4294967296
/-- q is not less than the digit. -/
structure GInv (un u1 v1 U V q r : Int) : Prop where
  eq : q * v1 + r = un * 4294967296 + u1
  r0 : 0 ≤ r
  q0 : 0 ≤ q
  q1 : q ≤ 4294967297
  up : U < (q + 1) * V

variable {un u1 u2 v1 v2 P U V q r : Int}
theorem Guess.top (h : Guess un u1 u2 v1 v2 P U V) : un ≤ v1 := by
  have k1 : (un * 4294967296) * (4294967296 * P) < ((v1 + 1) * 4294967296) * (4294967296 * P) := by
    have e1 : (un * 4294967296) * (4294967296 * P) ≤ ((un * 4294967296 + u1) * 4294967296 + u2) * P := by
      have := mul_le (a := un * 4294967296 * 4294967296) (b := (un * 4294967296 + u1) * 4294967296 + u2) (c := P) (by have := h.hP; omega) (by have := h.a0; have := h.b0; omega)
      have e : (un * 4294967296) * (4294967296 * P) = un * 4294967296 * 4294967296 * P := by grind
      omega
    have e2 : V * 4294967296 ≤ ((v1 + 1) * 4294967296) * (4294967296 * P) := by
      have := mul_le (a := v1 * 4294967296 + v2 + 1) (b := (v1 + 1) * 4294967296) (c := P) (by have := h.hP; omega) (by have := h.d1; omega)
      have e : ((v1 + 1) * 4294967296) * (4294967296 * P) = ((v1 + 1) * 4294967296) * P * 4294967296 := by grind
      have := h.vhi
      omega
    have := h.ulo; have := h.small
    omega
  have := lt_of_mul (by have := h.hP; omega) k1
  omega
theorem Guess.start (h : Guess un u1 u2 v1 v2 P U V) : GInv un u1 v1 U V ((un * 4294967296 + u1) / v1) ((un * 4294967296 + u1) % v1) := by
  have ht := h.top
  have hv : 0 < v1 := by have := h.c0; omega
  have hd := Int.mul_ediv_add_emod (un * 4294967296 + u1) v1
  have hm0 := Int.emod_nonneg (un * 4294967296 + u1) (b := v1) (by omega)
  have hm1 := Int.emod_lt_of_pos (un * 4294967296 + u1) hv
  have hq0 : 0 ≤ (un * 4294967296 + u1) / v1 := Int.ediv_nonneg (by have := h.n0; have := h.a0; omega) (by omega)
  generalize (un * 4294967296 + u1) / v1 = q at *
  generalize (un * 4294967296 + u1) % v1 = r at *
  have hc := h.c0
  refine ⟨by rw [Int.mul_comm]; exact hd, hm0, hq0, ?_, ?_⟩
  · rcases Int.lt_or_le 4294967297 q with hlt | hle
    · exfalso
      have k : 4294967298 * v1 ≤ q * v1 := mul_le (by omega) hlt
      have : q * v1 = v1 * q := Int.mul_comm _ _
      have := h.a1
      omega
    · exact hle
  · have k1 : un * 4294967296 + u1 + 1 ≤ (q + 1) * v1 := by
      have : (q + 1) * v1 = v1 * q + v1 := by grind
      omega
    have k2 := mul_le (a := (un * 4294967296 + u1) * 4294967296 + u2 + 1) (b := (un * 4294967296 + u1 + 1) * 4294967296) (c := P) (by have := h.hP; omega) (by have := h.b1; omega)
    have k3 := mul_le (c := 4294967296 * P) (by have := h.hP; omega) k1
    have k4 := mul_le (a := v1 * 4294967296 * P) (b := V) (c := q + 1) (by omega) (by
      have := h.vlo
      have k := mul_le (a := v1 * 4294967296) (b := v1 * 4294967296 + v2) (c := P) (by have := h.hP; omega) (by have := h.d0; omega)
      omega)
    have := h.uhi
    have e1 : (un * 4294967296 + u1 + 1) * (4294967296 * P) = (un * 4294967296 + u1 + 1) * 4294967296 * P := by grind
    have e2 : (q + 1) * v1 * (4294967296 * P) = v1 * 4294967296 * P * (q + 1) := by grind
    have e3 : V * (q + 1) = (q + 1) * V := Int.mul_comm _ _
    omega
theorem Guess.step (h : Guess un u1 u2 v1 v2 P U V) (g : GInv un u1 v1 U V q r) (ht : 4294967296 ≤ q ∨ r * 4294967296 + u2 < q * v2) : GInv un u1 v1 U V (q - 1) (r + v1) ∧ q - 1 ≤ 4294967296 := by
  have hP := h.hP
  have hq1 : 1 ≤ q := by
    rcases ht with ht | ht
    · omega
    · have h0 := g.q0
      rcases Int.lt_or_le 0 q with h1 | h1
      · omega
      · obtain rfl : q = 0 := by omega
        have := g.r0; have := h.b0
        omega
  have hV : 0 ≤ V := by
    have := h.vlo
    have := Int.mul_nonneg (a := v1 * 4294967296 + v2) (b := P) (by have := h.c0; have := h.d0; omega) (by omega)
    omega
  refine ⟨⟨?_, ?_, by omega, ?_, ?_⟩, by have := g.q1; omega⟩
  · have := g.eq
    have e : (q - 1) * v1 + (r + v1) = q * v1 + r := by grind
    omega
  · have := g.r0; have := h.c0; omega
  · have := g.q1; omega
  · rw [Int.sub_add_cancel]
    rcases ht with ht | ht
    · have := mul_le (c := V) hV ht
      have := h.small
      have e : V * 4294967296 = 4294967296 * V := Int.mul_comm _ _
      omega
    · have k1 : (un * 4294967296 + u1) * 4294967296 + u2 + 1 ≤ q * (v1 * 4294967296 + v2) := by
        have e : q * (v1 * 4294967296 + v2) = (q * v1) * 4294967296 + q * v2 := by grind
        have := g.eq
        omega
      have k2 := mul_le (c := P) (by omega) k1
      have k3 := mul_le (c := q) (by omega) h.vlo
      have := h.uhi
      have e1 : q * (v1 * 4294967296 + v2) * P = (v1 * 4294967296 + v2) * P * q := by grind
      have e2 : V * q = q * V := Int.mul_comm _ _
      omega
theorem Guess.over (h : Guess un u1 u2 v1 v2 P U V) (g : GInv un u1 v1 U V q r) (hq : q ≤ 4294967296) (ht : q * v2 ≤ r * 4294967296 + u2) : (q - 1) * V ≤ U := by
  have hP := h.hP
  have hV : 0 ≤ V := by
    have := h.vlo
    have := Int.mul_nonneg (a := v1 * 4294967296 + v2) (b := P) (by have := h.c0; have := h.d0; omega) (by omega)
    omega
  have hU : 0 ≤ U := by
    have := h.ulo
    have := Int.mul_nonneg (a := (un * 4294967296 + u1) * 4294967296 + u2) (b := P) (by have := h.n0; have := h.a0; have := h.b0; omega) (by omega)
    omega
  rcases Int.lt_or_le 0 q with h1 | h1
  · have k1 : q * (v1 * 4294967296 + v2) ≤ (un * 4294967296 + u1) * 4294967296 + u2 := by
      have e : q * (v1 * 4294967296 + v2) = (q * v1) * 4294967296 + q * v2 := by grind
      have := g.eq
      omega
    have k2 := mul_le (a := V) (b := (v1 * 4294967296 + v2 + 1) * P) (c := q - 1) (by omega) (by have := h.vhi; omega)
    have k3 : (q - 1) * (v1 * 4294967296 + v2 + 1) ≤ (un * 4294967296 + u1) * 4294967296 + u2 := by
      have e : (q - 1) * (v1 * 4294967296 + v2 + 1) = q * (v1 * 4294967296 + v2) + q - 1 - v1 * 4294967296 - v2 := by grind
      have := h.c0; have := h.d0
      omega
    have k4 := mul_le (c := P) (by omega) k3
    have := h.ulo
    have e1 : V * (q - 1) = (q - 1) * V := Int.mul_comm _ _
    have e2 : (v1 * 4294967296 + v2 + 1) * P * (q - 1) = (q - 1) * (v1 * 4294967296 + v2 + 1) * P := by grind
    omega
  · have := Int.mul_nonneg (a := 1 - q) (b := V) (by omega) hV
    have e : (1 - q) * V = -((q - 1) * V) := by grind
    omega
/-- The state of the long division: j digits are to come. -/
structure LInv (A V : Int) (n : Nat) (u q : List Int) (j : Nat) : Prop where
  lu : Lim u
  lq : Lim q
  len : u.length = q.length + n
  le : j ≤ q.length
  low : val u < V * pw j
  eq : A = val (q.drop j) * (V * pw j) + val u
theorem LInv.part {A V : Int} {n : Nat} {u q : List Int} {j : Nat} (h : LInv A V n u q (j + 1)) (hV : V < pw n) (_hV0 : 0 < V) :
    val u = val (u.take j) + pw j * val ((u.drop j).take (n + 1)) ∧ val ((u.drop j).take (n + 1)) < V * 4294967296 ∧ ((u.drop j).take (n + 1)).length = n + 1 ∧ val (u.drop (j + (n + 1))) = 0 := by
  have hj := h.le
  have hl := h.len
  have h1 := val_take_drop u j (by omega)
  have h2 := val_take_drop (u.drop j) (n + 1) (by rw [List.length_drop]; omega)
  rw [List.drop_drop] at h2
  have k0 := val_nonneg (h.lu.take j)
  have k1 := val_nonneg ((h.lu.drop j).take (n + 1))
  have k2 := val_nonneg (h.lu.drop (j + (n + 1)))
  have hlow := h.low
  have hP := pw_pos j
  have hN := pw_pos (n + 1)
  have e0 : pw (j + 1) = 4294967296 * pw j := pw_succ j
  have e1 : pw j * val (u.drop j) = pw j * val ((u.drop j).take (n + 1)) + (pw j * pw (n + 1)) * val (u.drop (j + (n + 1))) := by rw [h2]; grind
  have hz : val (u.drop (j + (n + 1))) = 0 := by
    rcases Int.lt_or_le 0 (val (u.drop (j + (n + 1)))) with hlt | hle
    · exfalso
      have a1 := mul_le (c := pw j * pw (n + 1)) (Int.le_of_lt (Int.mul_pos hP hN)) hlt
      have a2 : V * pw (j + 1) ≤ pw n * (4294967296 * pw j) := by rw [e0]; exact mul_le (by omega) (by omega)
      have a3 : pw n * (4294967296 * pw j) = pw j * pw (n + 1) := by rw [pw_succ]; grind
      have a4 := Int.mul_nonneg (Int.le_of_lt hP) k1
      have a5 : val (u.drop (j + (n + 1))) * (pw j * pw (n + 1)) = pw j * pw (n + 1) * val (u.drop (j + (n + 1))) := Int.mul_comm _ _
      omega
    · omega
  rw [hz] at e1
  refine ⟨by omega, ?_, by rw [List.length_take, List.length_drop]; omega, hz⟩
  refine lt_of_mul (c := pw j) (by omega) ?_
  have a1 : V * 4294967296 * pw j = V * pw (j + 1) := by rw [e0]; grind
  have a2 : val ((u.drop j).take (n + 1)) * pw j = pw j * val ((u.drop j).take (n + 1)) := Int.mul_comm _ _
  omega
theorem LInv.step {A V : Int} {n : Nat} {u q : List Int} {j : Nat} (h : LInv A V n u q (j + 1)) (hV : V < pw n) (hV0 : 0 < V) {p : List Int} {d : Int} (hp : Lim p) (hpl : p.length = n + 1) (hd : 0 ≤ d ∧ d < 4294967296)
    (he : val ((u.drop j).take (n + 1)) = d * V + val p) (hlt : val p < V) : LInv A V n (u.take j ++ p ++ u.drop (j + (n + 1))) (q.set j d) j := by
  obtain ⟨h1, -, -, h4⟩ := h.part hV hV0
  have hj := h.le
  have hl := h.len
  have lt : (u.take j).length = j := by rw [List.length_take]; omega
  have e0 : val (u.take j ++ p ++ u.drop (j + (n + 1))) = val (u.take j) + pw j * val p := by
    rw [val_append, val_append, h4, lt]; omega
  have k2 := val_lt (h.lu.take j)
  rw [lt] at k2
  refine ⟨Lim.append.2 ⟨Lim.append.2 ⟨h.lu.take j, hp⟩, h.lu.drop _⟩, h.lq.set _ hd, ?_, by rw [List.length_set]; omega, ?_, ?_⟩
  · rw [List.length_append, List.length_append, lt, hpl, List.length_drop, List.length_set]; omega
  · rw [e0]
    have a1 := mul_le (a := val p + 1) (c := pw j) (Int.le_of_lt (pw_pos j)) hlt
    have a2 : (val p + 1) * pw j = pw j * val p + pw j := by grind
    omega
  · have e1 : val ((q.set j d).drop j) = d + 4294967296 * val (q.drop (j + 1)) := by
      rw [val_drop_at (by rw [List.length_set]; omega), List.getElem_set_self, List.drop_set_of_lt (by omega)]
    have e2 := h.eq
    rw [h1, he, pw_succ] at e2
    rw [e0, e1, e2]
    grind
theorem LInv.done {A V : Int} {n : Nat} {u q : List Int} (h : LInv A V n u q 0) : A = val q * V + val u ∧ val u < V := by
  have h1 := h.low; have h2 := h.eq
  rw [pw_zero, Int.mul_one] at h1 h2
  exact ⟨h2, h1⟩
/-- A quotient and a remainder are the quotient and the remainder. -/
theorem div_of {a b q r : Nat} (h : a = q * b + r) (hr : r < b) : q = a / b ∧ r = a % b := by
  subst h
  constructor
  · rw [Nat.mul_comm, Nat.mul_add_div (by omega), Nat.div_eq_of_lt hr, Nat.add_zero]
  · rw [Nat.mul_comm, Nat.mul_add_mod, Nat.mod_eq_of_lt hr]
theorem pw_nat (k : Nat) : pw k = ((2 ^ (32 * k) : Nat) : Int) := by
  induction k with
  | zero => rfl
  | succ k ih =>
    rw [pw_succ, ih, show 32 * (k + 1) = 32 * k + 32 by omega, Nat.pow_add]
    omega
/-- A limb of a list, by the value. -/
theorem limb_eq {xs : List Int} (h : Lim xs) {k : Nat} (hk : k < xs.length) {N : Nat} (hN : val xs = N) : xs[k] = ((N / 2 ^ (32 * k) % 2 ^ 32 : Nat) : Int) := by
  have h1 := val_take_drop xs k (by omega)
  have h2 := val_drop_at hk
  have k1 := val_nonneg (h.take k)
  have k2 := val_lt (h.take k)
  rw [List.length_take, Nat.min_eq_left (by omega)] at k2
  have k3 := val_nonneg (h.drop k)
  have k4 := val_nonneg (h.drop (k + 1))
  have k5 := h.get hk
  obtain ⟨p, hp⟩ : ∃ p : Nat, val (xs.take k) = p := ⟨(val (xs.take k)).toNat, by omega⟩
  obtain ⟨d, hd⟩ : ∃ d : Nat, val (xs.drop k) = d := ⟨(val (xs.drop k)).toNat, by omega⟩
  rw [hp, hd, hN, pw_nat] at h1
  rw [hp, pw_nat] at k2
  have e : N = d * 2 ^ (32 * k) + p := by
    have : ((d * 2 ^ (32 * k) + p : Nat) : Int) = (p : Int) + ((2 ^ (32 * k) : Nat) : Int) * (d : Int) := by rw [Int.natCast_add, Int.natCast_mul, Int.mul_comm]; omega
    omega
  have := (div_of e (by omega)).1
  rw [← this]
  rw [show (2 : Nat) ^ 32 = 4294967296 from rfl]
  omega
theorem bit_eq {xs : List Int} (h : Lim xs) {i : Nat} (hi : i / 32 < xs.length) {N : Nat} (hN : val xs = N) : xs[i / 32] / 2 ^ (i % 32) % 2 = ((N / 2 ^ i % 2 : Nat) : Int) := by
  rw [limb_eq h hi hN]
  have hlt : i % 32 < 32 := Nat.mod_lt _ (by omega)
  have e : N / 2 ^ (32 * (i / 32)) % 2 ^ 32 / 2 ^ (i % 32) % 2 = N / 2 ^ i % 2 := by
    have a1 : (N / 2 ^ (32 * (i / 32)) % 2 ^ 32).testBit (i % 32) = N.testBit i := by
      rw [Nat.testBit_mod_two_pow, Nat.testBit_div_two_pow]
      simp only [hlt, decide_true, Bool.true_and]
      congr 1; omega
    rw [Nat.testBit_eq_decide_div_mod_eq, Nat.testBit_eq_decide_div_mod_eq] at a1
    have a2 := Nat.mod_lt (N / 2 ^ (32 * (i / 32)) % 2 ^ 32 / 2 ^ (i % 32)) (show 0 < 2 by omega)
    have a3 := Nat.mod_lt (N / 2 ^ i) (show 0 < 2 by omega)
    have a4 := decide_eq_decide.1 a1
    omega
  rw [← e]
  simp
/-- A limb of a multiple leaves room for the bit below. -/
theorem room {xs : List Int} (h : Lim xs) {i : Nat} (hi : i / 32 < xs.length) {Q : Nat} (hN : val xs = ((Q * 2 ^ (i + 1) : Nat) : Int)) : xs[i / 32] + 2 ^ (i % 32) < 4294967296 := by
  rw [limb_eq h hi hN]
  have hlt : i % 32 < 32 := Nat.mod_lt _ (by omega)
  have e1 : Q * 2 ^ (i + 1) / 2 ^ (32 * (i / 32)) = 2 ^ (i % 32 + 1) * Q := by
    have : i + 1 = i % 32 + 1 + 32 * (i / 32) := by omega
    rw [this, Nat.pow_add, ← Nat.mul_assoc, Nat.mul_div_cancel _ (Nat.two_pow_pos _), Nat.mul_comm]
  rw [e1]
  have e2 : (2 : Nat) ^ 32 = 2 ^ (i % 32 + 1) * 2 ^ (31 - i % 32) := by rw [← Nat.pow_add]; congr 1; omega
  have e3 : 2 ^ (i % 32 + 1) * Q % 2 ^ 32 = 2 ^ (i % 32 + 1) * (Q % 2 ^ (31 - i % 32)) := by rw [e2, Nat.mul_mod_mul_left]
  rw [e3]
  have a1 := Nat.mod_lt Q (Nat.two_pow_pos (31 - i % 32))
  have a2 := Nat.mul_le_mul_left (2 ^ (i % 32 + 1)) (Nat.succ_le_of_lt a1)
  rw [← e2, Nat.succ_eq_add_one, Nat.mul_add, Nat.mul_one] at a2
  have a3 : (2 : Nat) ^ (i % 32 + 1) = 2 * 2 ^ (i % 32) := by rw [Nat.pow_succ, Nat.mul_comm]
  have a4 := Nat.two_pow_pos (i % 32)
  have a5 : ((2 : Int) ^ (i % 32)) = ((2 ^ (i % 32) : Nat) : Int) := by simp
  rw [a5]
  rw [show (2 : Nat) ^ 32 = 4294967296 from rfl] at a2
  omega
theorem val_set_bit {xs : List Int} {i : Nat} (hi : i / 32 < xs.length) : val (xs.set (i / 32) (xs[i / 32] + 2 ^ (i % 32))) = val xs + ((2 ^ i : Nat) : Int) := by
  rw [val_set hi, pw_nat]
  have e : 2 ^ i = 2 ^ (32 * (i / 32)) * 2 ^ (i % 32) := by rw [← Nat.pow_add]; congr 1; omega
  rw [e, Int.natCast_mul]
  have : ((2 : Int) ^ (i % 32)) = ((2 ^ (i % 32) : Nat) : Int) := by simp
  rw [this]
  grind
/-- One step of the division bit by bit. -/
theorem bits_step {N b Q r i : Nat} (h : N / 2 ^ (i + 1) = Q * b + r) : N / 2 ^ i = (2 * Q) * b + (2 * r + N / 2 ^ i % 2) := by
  have e : N / 2 ^ (i + 1) = N / 2 ^ i / 2 := by rw [Nat.pow_succ, Nat.div_div_eq_div_mul]
  rw [e] at h
  have h2 := Nat.div_add_mod (N / 2 ^ i) 2
  rw [h] at h2
  have : 2 * (Q * b + r) = 2 * Q * b + 2 * r := by rw [Nat.mul_add, Nat.mul_assoc]
  omega
/-- Half of a number, limb by limb. -/
def halfAt (xs : List Int) (i : Nat) : Int := (xs.getD (i + 1) 0 % 2 * 4294967296 + xs.getD i 0) / 2
theorem halfs : ∀ {xs : List Int}, Lim xs → Lim ((List.range xs.length).map (halfAt xs)) ∧ val ((List.range xs.length).map (halfAt xs)) = val xs / 2
  | [], _ => ⟨Lim.nil, rfl⟩
  | x :: xs, h => by
    obtain ⟨hx, hxs⟩ := Lim.cons.1 h
    have ih := halfs hxs
    have e : (List.range (x :: xs).length).map (halfAt (x :: xs)) = halfAt (x :: xs) 0 :: (List.range xs.length).map (halfAt xs) := by
      rw [List.length_cons, List.range_succ_eq_map, List.map_cons, List.map_map]
      congr 1
    have hg := hxs.getD 0
    have hm : val xs % 2 = xs.getD 0 0 % 2 := by
      cases xs with
      | nil => rfl
      | cons y ys => simp only [val, List.getD_cons_zero]; omega
    have h0 : halfAt (x :: xs) 0 = (xs.getD 0 0 % 2 * 4294967296 + x) / 2 := by simp [halfAt]
    rw [e]
    refine ⟨Lim.cons.2 ⟨by rw [h0]; omega, ih.1⟩, ?_⟩
    simp only [val]
    rw [ih.2, h0]
    omega
theorem gcd_even (x y : Nat) (hx : x % 2 = 0) (hy : y % 2 = 0) : Nat.gcd x y = 2 * Nat.gcd (x / 2) (y / 2) := by
  rw [← Nat.gcd_mul_left]; congr 1 <;> omega
theorem gcd_half (x y : Nat) (hx : x % 2 = 0) (hy : y % 2 = 1) : Nat.gcd x y = Nat.gcd (x / 2) y := by
  have e : x = x / 2 * 2 := by omega
  have hc : Nat.Coprime 2 y := by
    rw [Nat.Coprime, Nat.gcd_rec, hy]; rfl
  conv => lhs; rw [e]
  exact Nat.Coprime.gcd_mul_right_cancel (x / 2) hc
theorem gcd_half' (x y : Nat) (hx : x % 2 = 1) (hy : y % 2 = 0) : Nat.gcd x y = Nat.gcd x (y / 2) := by
  rw [Nat.gcd_comm, gcd_half y x hy hx, Nat.gcd_comm]
theorem gcd_less (x y : Nat) (h : x ≤ y) : Nat.gcd x y = Nat.gcd x (y - x) := (Nat.gcd_sub_self_right h).symm
theorem gcd_less' (x y : Nat) (h : y ≤ x) : Nat.gcd x y = Nat.gcd (x - y) y := (Nat.gcd_sub_self_left h).symm
end Go.Proofs.YtogngcbflhdadaaGreat.Limb

/- Whole blocks of numbers: what lies in one, behind stores and calls. -/
namespace Go.Proofs.YtogngcbflhdadaaGreat
open Go Go.RowKit

/-- Block g holds the numbers xs, and no more. -/
def Arr (k : IntKind) (w : World) (g : Nat) (e : TypeId) (xs : List Int) : Prop := w.heap[g]? = some (.cells (xs.map (Value.int k)).toArray e (0, 0))
variable {k : IntKind} {w w' : World} {g : Nat} {e : TypeId} {xs : List Int}
theorem Arr.lt (h : Arr k w g e xs) : g < w.heap.size := size_of_box h
theorem Arr.cell (h : Arr k w g e xs) {i : Nat} (hi : i < xs.length) : w.cell? ⟨g, i, none⟩ = some (.int k xs[i]) := by
  unfold Arr at h; simp [World.cell?, h, hi]
theorem Arr.frozen (h : Arr k w g e xs) (i : Nat) : w.frozen? ⟨g, i, none⟩ = false := by unfold Arr at h; simp [World.frozen?, h]
theorem Arr.set (h : Arr k w g e xs) (i : Nat) (y : Int) : Arr k (w.setCell ⟨g, i, none⟩ (.int k y)) g e (xs.set i y) := by
  have := heap_setCell_at h (o := i) (.int k y)
  unfold Arr
  rw [this]
  congr 2
  simp
theorem Arr.other (h : Arr k w g e xs) {p : Addr} (hp : p.block ≠ g) (u : Value) : Arr k (w.setCell p u) g e xs := (Below.heap_setCell w p u g (fun e => hp e.symm)).trans h
theorem Arr.same {S : Nat → Prop} (h : Arr k w g e xs) (hs : Same S w w') (hS : S g) : Arr k w' g e xs := (hs g h.lt hS).trans h
theorem Arr.below (h : Arr k w g e xs) (hb : Below w.heap.size w w') : Arr k w' g e xs := (hb.block g h.lt).trans h
theorem Arr.grown (h : Arr k w g e xs) {row : Option Nat} (hb : w.grownBy w' row) (hr : some g ≠ row) : Arr k w' g e xs := (hb.block g h.lt hr).trans h
theorem Arr.made (w : World) (n : Nat) (e : TypeId) : Arr k (w.alloc (.cells (Array.replicate n (.int k 0)) e)) w.heap.size e (List.replicate n 0) := by
  unfold Arr
  rw [box_new]
  congr 2
  simp
theorem Arr.rsl (h : Arr k w g e xs) {S : Nat → Prop} (hS : S g) (hw : ∀ x ∈ xs, (Lit.int k x).wf = true) (hl : xs.length ≤ 140737488355328) {off n cap : Nat} (ho : off + n ≤ xs.length) (hc : n ≤ cap) :
    RSl S 1 (dInt k) w (.slice (some ⟨g, off, none⟩) n cap) ((xs.drop off).take n) := by
  have hlen : ((xs.drop off).take n).length = n := by rw [List.length_take, List.length_drop]; omega
  refine ⟨_, cap, ((xs.drop off).take n).map (Value.int k), by rw [hlen], by omega, by omega, ⟨by simp, fun i hi => ?_⟩, .inr ⟨g, off, rfl, hS, fun j u hu => ?_⟩⟩
  · have hi' : i < (((xs.drop off).take n).map (Value.int k)).length := by simpa using hi
    rw [Nat.mul_one, List.drop_eq_getElem_cons hi', List.take_succ_cons, List.take_zero, List.getElem_map]
    exact ⟨rfl, hw _ (List.mem_of_mem_drop (List.mem_of_mem_take (List.getElem_mem hi)))⟩
  · rw [List.getElem?_map] at hu
    obtain ⟨x, hx, rfl⟩ := Option.map_eq_some_iff.1 hu
    have hj : j < n := by
      rcases Nat.lt_or_ge j n with h1 | h1
      · exact h1
      · rw [List.getElem?_eq_none (by omega)] at hx; cases hx
    rw [List.getElem?_take_of_lt hj, List.getElem?_drop] at hx
    have hlt : off + j < xs.length := by omega
    rw [List.getElem?_eq_getElem hlt] at hx
    cases hx
    exact h.cell hlt
theorem Arr.all (h : Arr k w g e xs) {S : Nat → Prop} (hS : S g) (hw : ∀ x ∈ xs, (Lit.int k x).wf = true) (hl : xs.length ≤ 140737488355328) {n cap : Nat} (hn : n = xs.length) (hc : n ≤ cap) :
    RSl S 1 (dInt k) w (.slice (some ⟨g, 0, none⟩) n cap) xs := by
  have := h.rsl hS hw hl (off := 0) (n := n) (by omega) hc
  rwa [List.drop_zero, hn, List.take_length, ← hn] at this
/-- Numbers of 32 bits. -/
def RU (S : Nat → Prop) (w : World) (v : Value) (xs : List Int) : Prop := RSl S 1 (dInt .u32) w v xs
theorem RU.same {S : Nat → Prop} {v : Value} (hs : Same S w w') (h : RU S w v xs) : RU S w' v xs := RSl.same (dInt.stable S _) hs h
theorem RU.below {S : Nat → Prop} {v : Value} (h : RU S w v xs) (hb : Below w.heap.size w w') : RU S w' v xs := h.same (.of_below hb)
theorem wf_u32 {x : Int} : (Lit.int .u32 x).wf = true ↔ 0 ≤ x ∧ x < 4294967296 := by
  simp [Lit.wf, IntKind.min, IntKind.max, IntKind.bits, IntKind.signed]
  omega
theorem Limb.Lim.wf {xs : List Int} (h : Limb.Lim xs) : ∀ x ∈ xs, (Lit.int .u32 x).wf = true := fun x hx => wf_u32.2 (h x hx)
theorem RSl.mem1 {α : Type} {S : Nat → Prop} {dec : World → List Value → α → Prop} {v : Value} {ys : List α} (h : RSl S 1 dec w v ys) : ∀ x ∈ ys, ∃ c, dec w [c] x := by
  intro x hx
  obtain ⟨i, hi, rfl⟩ := List.getElem_of_mem hx
  obtain ⟨b, off, cap, c, _, _, _, hd⟩ := h.get1 i hi
  exact ⟨c, hd⟩
theorem RU.lim {S : Nat → Prop} {v : Value} (h : RU S w v xs) : Limb.Lim xs := fun x hx => by
  obtain ⟨c, hc⟩ := RSl.mem1 h x hx
  exact wf_u32.1 hc.open.2
/-- The cell of an element. -/
theorem RU.at {S : Nat → Prop} {a : Option Addr} {n cap : Nat} (h : RU S w (.slice a n cap) xs) {i : Nat} (hi : i < xs.length) :
    ∃ b off, a = some ⟨b, off, none⟩ ∧ S b ∧ b < w.heap.size ∧ w.cell? ⟨b, off + i, none⟩ = some (.int .u32 xs[i]) ∧ 0 ≤ xs[i] ∧ xs[i] < 4294967296 := by
  obtain ⟨b, off, c, rfl, hS, hb, hc, hd⟩ := RSl.at1 h i hi
  obtain ⟨rfl, hw⟩ := hd.open
  exact ⟨b, off, rfl, hS, hb, hc, wf_u32.1 hw⟩
end Go.Proofs.YtogngcbflhdadaaGreat

/- Natural numbers: the contracts of nat.Check, nat.both, nat.order, nat.trim, slices.Equal and slices.Clone at limbs. -/
namespace Go.Proofs.YtogngcbflhdadaaGreat
open Go Go.RowKit Go.Shelf Limb

/-- nat.Check's error. -/
def chkN (xs : List Int) : Int := if 96 < xs.length then 4 else if xs.getD (xs.length - 1) 1 = 0 then 8 else 0
theorem chk_of_lim {n : Nat} (h : (lim n).length ≤ 96) : chkN (lim n) = 0 := by
  unfold chkN
  rw [if_neg (by omega), if_neg]
  intro h2
  by_cases h0 : lim n = []
  · rw [h0] at h2; simp at h2
  · have h3 : (lim n).length - 1 < (lim n).length := by have := List.length_pos_iff.2 h0; omega
    rw [List.getD, List.getElem?_eq_getElem h3] at h2
    have := lim_last h0
    rw [List.getLast_eq_getElem] at this
    exact this h2
def chkNN (xs ys : List Int) : Int := if chkN xs ≠ 0 then chkN xs else chkN ys
end Go.Proofs.YtogngcbflhdadaaGreat

/- Natural numbers: the contracts of nat.order, nat.trim, slices.Equal and slices.Clone at limbs. -/
namespace Go.Proofs.YtogngcbflhdadaaGreat
open Go Go.RowKit Go.Shelf Limb

/-- What lies at k and above is zero. -/
def ZeroFrom (xs : List Int) (k : Nat) : Prop := ∀ i (h : i < xs.length), k ≤ i → xs[i] = 0
theorem RU.take {S : Nat → Prop} {w : World} {a : Option Addr} {n c : Nat} {xs : List Int} (h : RU S w (.slice a n c) xs) {k c' : Nat} (hk : k ≤ xs.length) (hc : k ≤ c') : RU S w (.slice a k c') (xs.take k) := by
  rcases Nat.eq_zero_or_pos k with rfl | h0
  · exact ⟨a, c', [], by simp, Nat.zero_le _, by simp, Dec.nil _ _ _, .inl (by simp)⟩
  · obtain ⟨b, off, rfl, -, -⟩ := RU.at h (i := 0) (by omega)
    have := RSl.sub h (p := 0) (q := k) (by omega) hk (cap' := c') (by omega)
    show RSl S 1 (dInt .u32) w (.slice (some ⟨b, off, none⟩) k c') (xs.take k)
    simpa using this
def TrimGives (S : Nat → Prop) (xs : List Int) (w : World) (e : Ending) (w' : World) : Prop :=
  ∃ a, e = .returned (.slice a (lim (val xs).toNat).length (lim (val xs).toNat).length) ∧ RU S w (.slice a (lim (val xs).toNat).length (lim (val xs).toNat).length) (lim (val xs).toNat) ∧ w = w'
set_option maxHeartbeats 1000000 in
theorem natTrim (S : Nat → Prop) (v : Value) (xs : List Int) (w : World) (h : RU S w v xs) :
    Calls Tryz.prog 178 #[v] w (TrimGives S xs w) := by
  have hlx := RU.lim h
  obtain ⟨a, cap, rfl, h1, h2⟩ := RSl.shape h
  have hG : ∀ k, k ≤ xs.length → Hid (ZeroFrom xs k) → (∀ h : 0 < k, ∀ hh : k - 1 < xs.length, xs[k - 1] ≠ 0) → TrimGives S xs w (.returned (.slice a k k)) w := fun k hk hz hn => by
    have e := trim_eq hlx hk hz.out (fun h0 => hn h0 (by omega))
    have e2 : (lim (val xs).toNat).length = k := by rw [← e, List.length_take]; omega
    have hr := RU.take h hk (Nat.le_refl k)
    rw [e] at hr
    exact ⟨a, by rw [e2], by rw [e2]; exact hr, rfl⟩
  have HG := Lib.hid hG
  clear hG
  go_enter Tryz.func178, Tryz.ntmps178
  go_wp2
  go_loopw [3] (fun i wr => ∃ k : Nat, i = .int .i64 k ∧ k ≤ xs.length ∧ Hid (ZeroFrom xs k) ∧ wr = w) (fun i _ => (intOf i).toNat)
  case atStart => exact ⟨xs.length, rfl, Nat.le_refl _, Lib.hid (fun i hi hk => by omega), rfl⟩
  case round =>
    obtain ⟨k, rfl, hk, hz, rfl⟩ := hrel
    cases k with
    | zero =>
      have hR := HG.out 0 (Nat.zero_le _) hz (fun h => by omega)
      have HR := Lib.hid hR
      clear hR
      go_wp2
      go_ret
      exact HR.out
    | succ j =>
      obtain ⟨b, off, rfl, -, -, hc, -, -⟩ := RU.at h (i := j) (by omega)
      have hji : (j : Int) < (xs.length : Int) := by omega
      have hj0 : (0 : Int) < (j : Int) + 1 := by omega
      by_cases hx : xs[j] = 0
      · rw [hx] at hc
        have hz' : ZeroFrom xs j := fun i hi hji => by
          by_cases e : i = j
          · subst e; exact hx
          · exact hz.out i hi (by omega)
        have Hz := Lib.hid hz'
        clear hz' hx
        go_wp2
        exact ⟨⟨j, by go_num, by omega, Hz, trivial⟩, by simp [intOf]⟩
      · have hxb : (xs[j] == 0) = false := beq_eq_false_iff_ne.2 hx
        have hR := HG.out (j + 1) hk hz (fun _ hh => by simpa using hx)
        have HR := Lib.hid hR
        clear hR hx
        go_wp2
        go_ret
        exact HR.out
theorem Tryz.infoU32 : (Tryz.prog.info? 128).map (fun i => (i.zero, i.size, i.bytes)) = some (some (.int .u32 0), 1, 4) := by kernel_rfl
end Go.Proofs.YtogngcbflhdadaaGreat

/- Natural numbers: the contracts of math/bits.Add32, Sub32, Div32. -/
namespace Go.Proofs.YtogngcbflhdadaaGreat
open Go Go.RowKit Go.Shelf Limb

theorem u64_small {x : Int} (h0 : 0 ≤ x) (h1 : x < 18446744073709551616) : IntKind.u64.wrap x = x := by
  simp [IntKind.wrap, IntKind.bits, IntKind.signed]
  omega
end Go.Proofs.YtogngcbflhdadaaGreat

/- Natural numbers: the contracts of nat.small and nat.Of. -/
namespace Go.Proofs.YtogngcbflhdadaaGreat
open Go Go.RowKit Go.Shelf Limb

theorem Arr.madeN {k : IntKind} (w : World) (n : Nat) (e : TypeId) : Arr k (w.alloc (.cells (madeCells #[.int k 0] n) e)) w.heap.size e (List.replicate n 0) := by
  unfold Arr
  rw [box_new]
  congr 2
  apply Array.ext'
  rw [toList_madeCells_one]
  simp
/-- Two numbers as a result: in memory that the call may have made. -/
def NumAt (w : World) (v : Value) (n : Nat) : Prop := ∃ a c, v = .slice a (lim n).length c ∧ RU Any w (.slice a (lim n).length c) (lim n)
theorem NumAt.same {w w' : World} {v : Value} {n : Nat} (h : NumAt w v n) (hb : Below w.heap.size w w') : NumAt w' v n := by
  obtain ⟨a, c, rfl, hr⟩ := h
  exact ⟨a, c, rfl, hr.below hb⟩
theorem NumAt.ru {w : World} {v : Value} {n : Nat} (h : NumAt w v n) : RU Any w v (lim n) := by
  obtain ⟨a, c, rfl, hr⟩ := h
  exact hr
theorem NumAt.of {S : Nat → Prop} {w : World} {v : Value} {n : Nat} (h : RU S w v (lim n)) : NumAt w v n := by
  obtain ⟨a, c, rfl, -, -⟩ := RSl.shape h
  exact ⟨a, c, rfl, RSl.mono (fun _ _ _ h => h) (fun _ _ => trivial) h⟩
theorem NumAt.shape {w : World} {v : Value} {n : Nat} (h : NumAt w v n) : ∃ a c, v = .slice a (lim n).length c := by
  obtain ⟨a, c, rfl, hr⟩ := h
  exact ⟨a, c, rfl⟩
end Go.Proofs.YtogngcbflhdadaaGreat

/- Natural numbers: the contract of nat.shifted. -/
namespace Go.Proofs.YtogngcbflhdadaaGreat
open Go Go.RowKit Go.Shelf Limb

theorem Arr.get {k : IntKind} {w : World} {g : Nat} {e : TypeId} {xs : List Int} (h : Arr k w g e xs) {i : Nat} {x : Int} (hi : xs[i]? = some x) : w.cell? ⟨g, i, none⟩ = some (.int k x) := by
  obtain ⟨hl, rfl⟩ := List.getElem?_eq_some_iff.1 hi
  exact h.cell hl
end Go.Proofs.YtogngcbflhdadaaGreat

/- Natural numbers: the contract of nat.guess. -/
namespace Go.Proofs.YtogngcbflhdadaaGreat
open Go Go.RowKit Go.Shelf Limb

theorem i64_small {x : Int} (h0 : 0 ≤ x) (h1 : x ≤ 1000000000) : IntKind.i64.wrap x = x := by
  simp [IntKind.wrap, IntKind.bits, IntKind.signed]
  omega
end Go.Proofs.YtogngcbflhdadaaGreat

/- Natural numbers: the contracts of nat.divide, nat.Div, nat.Gcd. -/
namespace Go.Proofs.YtogngcbflhdadaaGreat
open Go Go.RowKit Go.Shelf Limb

theorem NumAt.zero (w : World) : NumAt w (.slice none 0 0) 0 := ⟨none, 0, by rw [lim_zero]; rfl, by rw [lim_zero]; exact RSl.nil⟩
theorem RU.inj {S T : Nat → Prop} {w : World} {v : Value} {xs ys : List Int} (h : RU S w v xs) (k : RU T w v ys) : xs = ys := by
  obtain ⟨a, c, rfl, -, -⟩ := RSl.shape h
  obtain ⟨a', c', e, -, -⟩ := RSl.shape k
  simp only [Value.slice.injEq] at e
  obtain ⟨rfl, hl, rfl⟩ := e
  rw [hl] at h
  apply List.ext_getElem hl
  intro i h1 h2
  obtain ⟨b, off, e1, -, -, hc, -, -⟩ := RU.at h h1
  obtain ⟨b', off', e2, -, -, hc', -, -⟩ := RU.at k h2
  rw [e1] at e2
  simp only [Option.some.injEq, Addr.mk.injEq, and_true] at e2
  obtain ⟨rfl, rfl⟩ := e2
  rw [hc] at hc'
  simpa using hc'
/-- The number that a value reads as. -/
noncomputable def numOf (w : World) (v : Value) : Nat := @Classical.epsilon Nat ⟨0⟩ (fun n => NumAt w v n)
theorem numOf_eq {w : World} {v : Value} {n : Nat} (h : NumAt w v n) : numOf w v = n := by
  have h1 : NumAt w v (numOf w v) := Classical.epsilon_spec (p := fun n => NumAt w v n) ⟨n, h⟩
  exact lim_inj (RU.inj h1.ru h.ru)
theorem lim_le_of {m n k : Nat} (h : m ≤ n) (hn : (lim n).length ≤ k) : (lim m).length ≤ k := Nat.le_trans (lim_length_mono h) hn
end Go.Proofs.YtogngcbflhdadaaGreat
