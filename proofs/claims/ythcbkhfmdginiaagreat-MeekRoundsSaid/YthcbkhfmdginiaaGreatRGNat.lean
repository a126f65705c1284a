/- Texts of one claim,put together: Limb,Arr,Nat1,Nat2,Nat3,Nat4,Nat5,Nat6,Nat7,NatL,Nat8,Nat9,Nat10,Nat11. -/
import Derived.Test.YthcbkhfmdginiaaGreatRGFoot
import Derived.Test.YthcbkhfmdginiaaGreatRGPut
import Derived.Test.YthcbkhfmdginiaaGreatRGSame
import Derived.Test.YthcbkhfmdginiaaGreatShelf
import Derived.Laws.BitsAllLaws
import Derived.Deep.OwnRows
import Derived.Laws.OwnMore
import Derived.Laws.CopyOwn
import Derived.Laws.MathBits

namespace Go.Proofs.YthcbkhfmdginiaaGreat.Limb

def pw (n : Nat) : Int := 4294967296 ^ n
theorem pw_zero : pw 0 = 1 := rfl
theorem qal (n : Nat) : pw (n + 1) = 4294967296 * pw n := by unfold pw;rw [Int.pow_succ,Int.mul_comm]
theorem pw_pos (n : Nat) : 0 < pw n := by
 induction n with
 | zero => decide
 | succ n ih => rw [qal];omega
theorem pw_add (m n : Nat) : pw (m + n) = pw m * pw n := by unfold pw;rw [Int.pow_add]
theorem pw_mono {m n : Nat} (h : m ≤ n) : pw m ≤ pw n := by
 obtain ⟨k,rfl⟩ := Nat.exists_eq_add_of_le h
 induction k with
 | zero => exact Int.le_refl _
 | succ k ih => have := pw_pos (m + k);rw [← Nat.add_assoc,qal];have := ih (by omega);omega

def val : List Int → Int
 | [] => 0
 | x :: xs => x + 4294967296 * val xs
def Lim (xs : List Int) : Prop := ∀ x ∈ xs,0 ≤ x ∧ x < 4294967296
theorem Lim.nil : Lim [] := fun _ h => by cases h
theorem Lim.cons {x : Int} {xs : List Int} : Lim (x :: xs) ↔ (0 ≤ x ∧ x < 4294967296) ∧ Lim xs := by simp [Lim]
theorem Lim.append {xs ys : List Int} : Lim (xs ++ ys) ↔ Lim xs ∧ Lim ys := by
 constructor
 ·intro h;exact ⟨fun x hx => h x (by simp [hx]),fun x hx => h x (by simp [hx])⟩
 ·rintro ⟨h, k⟩ x hx
  rcases List.mem_append.1 hx with hx | hx
  ·exact h x hx
  ·exact k x hx
theorem Lim.take {xs : List Int} (h : Lim xs) (n : Nat) : Lim (xs.take n) := fun x hx => h x (List.mem_of_mem_take hx)
theorem Lim.drop {xs : List Int} (h : Lim xs) (n : Nat) : Lim (xs.drop n) := fun x hx => h x (List.mem_of_mem_drop hx)
theorem Lim.get {xs : List Int} (h : Lim xs) {i : Nat} (hi : i < xs.length) : 0 ≤ xs[i] ∧ xs[i] < 4294967296 := h _ (List.getElem_mem hi)
theorem Lim.getD {xs : List Int} (h : Lim xs) (i : Nat) : 0 ≤ xs.getD i 0 ∧ xs.getD i 0 < 4294967296 := by
 by_cases hi : i < xs.length
 ·simp only [List.getD,List.getElem?_eq_getElem hi,Option.getD_some];exact h.get hi
 ·simp [List.getD,List.getElem?_eq_none (Nat.le_of_not_lt hi)]
theorem Lim.set {xs : List Int} (h : Lim xs) (i : Nat) {y : Int} (hy : 0 ≤ y ∧ y < 4294967296) : Lim (xs.set i y) := by
 intro x hx
 rcases List.mem_or_eq_of_mem_set hx with hx | rfl
 ·exact h x hx
 ·exact hy
theorem Lim.zeros (n : Nat) : Lim (List.replicate n 0) := by
 intro x hx;have := List.eq_of_mem_replicate hx;omega

theorem qaf : ∀ {xs : List Int},Lim xs → 0 ≤ val xs
 | [],_ => Int.le_refl _
 | x :: xs,h => by have := qaf (Lim.cons.1 h).2;have := (Lim.cons.1 h).1;simp only [val];omega
theorem val_lt : ∀ {xs : List Int},Lim xs → val xs < pw xs.length
 | [],_ => by decide
 | x :: xs,h => by
  have := val_lt (Lim.cons.1 h).2
  have := (Lim.cons.1 h).1
  rw [List.length_cons,qal];simp only [val];omega
theorem val_append (xs ys : List Int) : val (xs ++ ys) = val xs + pw xs.length * val ys := by
 induction xs with
 | nil => simp [val,pw_zero]
 | cons x xs ih =>
  simp only [List.cons_append,val,ih,List.length_cons,qal]
  grind
theorem val_single (x : Int) : val [x] = x := by simp [val]
theorem val_snoc (xs : List Int) (y : Int) : val (xs ++ [y]) = val xs + pw xs.length * y := by rw [val_append,val_single]
theorem val_zeros (n : Nat) : val (List.replicate n 0) = 0 := by
 induction n with
 | zero => rfl
 | succ n ih => simp [List.replicate_succ,val,ih]
theorem qao (xs : List Int) (n : Nat) (h : n ≤ xs.length) : val xs = val (xs.take n) + pw n * val (xs.drop n) := by
 have h2 := val_append (xs.take n) (xs.drop n)
 rw [List.take_append_drop,List.length_take,Nat.min_eq_left h] at h2
 exact h2
theorem qas {xs : List Int} {i : Nat} (h : i < xs.length) : val (xs.drop i) = xs[i] + 4294967296 * val (xs.drop (i + 1)) := by
 rw [List.drop_eq_getElem_cons h];rfl
theorem qaq {xs : List Int} {i : Nat} (h : i < xs.length) : val (xs.take (i + 1)) = val (xs.take i) + pw i * xs[i] := by
 rw [List.take_succ_eq_append_getElem h,val_snoc,List.length_take,Nat.min_eq_left (Nat.le_of_lt h)]
theorem val_take_getD (xs : List Int) (i : Nat) : val (xs.take (i + 1)) = val (xs.take i) + pw i * xs.getD i 0 := by
 by_cases h : i < xs.length
 ·rw [qaq h];simp [List.getD,h]
 ·rw [List.take_of_length_le (by omega), List.take_of_length_le (by omega)]
  simp [List.getD,List.getElem?_eq_none (Nat.le_of_not_lt h)]
theorem val_set {xs : List Int} {i : Nat} (h : i < xs.length) (y : Int) : val (xs.set i y) = val xs + pw i * (y - xs[i]) := by
 induction xs generalizing i with
 | nil => cases h
 | cons x xs ih =>
  cases i with
  | zero => simp only [List.set_cons_zero,val,List.getElem_cons_zero,pw_zero];omega
  | succ i =>
   simp only [List.set_cons_succ,val,List.getElem_cons_succ,qal]
   rw [ih (by simpa using h)]
   grind

def lim (n : Nat) : List Int := if h : n = 0 then [] else ((n % 4294967296 : Nat) : Int) :: lim (n / 4294967296)
termination_by n
decreasing_by omega
theorem qaj : lim 0 = [] := by rw [lim];simp
theorem lim_pos {n : Nat} (h : n ≠ 0) : lim n = ((n % 4294967296 : Nat) : Int) :: lim (n / 4294967296) := by rw [lim];simp [h]
theorem lim_small {n : Nat} (h0 : n ≠ 0) (h : n < 4294967296) : lim n = [(n : Int)] := by
 rw [lim_pos h0,Nat.div_eq_of_lt h,qaj,Nat.mod_eq_of_lt h]
theorem lim_Lim (n : Nat) : Lim (lim n) := by
 induction n using Nat.strongRecOn with
 | ind n ih =>
  by_cases h : n = 0
  ·subst h;rw [qaj];exact Lim.nil
  ·rw [lim_pos h, Lim.cons]
   refine ⟨by omega,ih _ (by omega)⟩
theorem qap (n : Nat) : val (lim n) = (n : Int) := by
 induction n using Nat.strongRecOn with
 | ind n ih =>
  by_cases h : n = 0
  ·subst h;rw [qaj];rfl
  ·rw [lim_pos h,val,ih _ (by omega)];omega
theorem qad {n : Nat} : lim n = [] ↔ n = 0 := by
 constructor
 ·intro h; by_cases h0 : n = 0
  ·exact h0
  ·rw [lim_pos h0] at h;cases h
 ·rintro rfl;exact qaj
theorem lim_inj {m n : Nat} (h : lim m = lim n) : m = n := by
 have := congrArg val h
 rw [qap,qap] at this
 omega
theorem lim_last {n : Nat} (h : lim n ≠ []) : (lim n).getLast h ≠ 0 := by
 induction n using Nat.strongRecOn with
 | ind n ih =>
  have h0 : n ≠ 0 := fun e => h (qad.2 e)
  by_cases h1 : n / 4294967296 = 0
  ·have : lim n = [((n % 4294967296 : Nat) : Int)] := by rw [lim_pos h0, h1, qaj]
   simp only [this,List.getLast_singleton]
   omega
  ·have hne : lim (n / 4294967296) ≠ [] := fun e => h1 (qad.1 e)
   have := ih _ (by omega) hne
   simp only [lim_pos h0,List.getLast_cons hne]
   exact this
theorem eq_lim {xs : List Int} (hl : Lim xs) (h : ∀ h0 : xs ≠ [],xs.getLast h0 ≠ 0) : xs = lim (val xs).toNat := by
 induction xs with
 | nil => simp [val,qaj]
 | cons x xs ih =>
  obtain ⟨hx,hxs⟩ := Lim.cons.1 hl
  have h1 : ∀ h0 : xs ≠ [],xs.getLast h0 ≠ 0 := fun h0 => by have := h (by simp);rwa [List.getLast_cons h0] at this
  have h2 := ih hxs h1
  have h3 := qaf hxs
  have hpos : (val (x :: xs)).toNat ≠ 0 := by
   intro e
   simp only [val] at e
   have hv : val xs = 0 := by omega
   have hx0 : x = 0 := by omega
   rw [hv] at h2
   have : xs = [] := by rw [h2];exact qaj
   subst this
   exact h (by simp) (by simpa using hx0)
  rw [lim_pos hpos]
  have e1 : (((val (x :: xs)).toNat % 4294967296 : Nat) : Int) = x := by simp only [val];omega
  have e2 : (val (x :: xs)).toNat / 4294967296 = (val xs).toNat := by simp only [val];omega
  rw [e1,e2,← h2]
theorem trim_eq {xs : List Int} (hl : Lim xs) {k : Nat} (hk : k ≤ xs.length) (hz : ∀ i (h : i < xs.length),k ≤ i → xs[i] = 0) (hn : ∀ h : 0 < k,xs[k - 1] ≠ 0) : xs.take k = lim (val xs).toNat := by
 have hd : xs.drop k = List.replicate (xs.length - k) 0 := by
  apply List.ext_getElem
  ·simp
  ·intro i h1 h2
   simp only [List.getElem_drop,List.getElem_replicate]
   exact hz _ (by simp at h1;omega) (by omega)
 have hv : val xs = val (xs.take k) := by
  rw [qao xs k hk,hd,val_zeros];omega
 rw [hv]
 refine eq_lim (hl.take k) fun h0 => ?_
 have hk0 : 0 < k := by
  rcases Nat.eq_zero_or_pos k with rfl | h
  ·simp at h0
  ·exact h
 rw [List.getLast_eq_getElem]
 simp only [List.getElem_take,List.length_take,Nat.min_eq_left hk]
 exact hn hk0
theorem qah {n k : Nat} (h : (n : Int) < pw k) : (lim n).length ≤ k := by
 induction k generalizing n with
 | zero => rw [pw_zero] at h; have : n = 0 := by omega
           subst this;simp [qaj]
 | succ k ih =>
  by_cases h0 : n = 0
  ·subst h0;simp [qaj]
  ·rw [lim_pos h0, List.length_cons]
   rw [qal] at h
   have := ih (n := n / 4294967296) (by omega)
   omega
theorem lt_of_lim (n : Nat) : (n : Int) < pw (lim n).length := by have := val_lt (lim_Lim n);rwa [qap] at this
theorem qb4 {m n : Nat} (h : m ≤ n) : (lim m).length ≤ (lim n).length := qah (Int.lt_of_le_of_lt (Int.ofNat_le.2 h) (lt_of_lim n))
theorem lt_of_length {m n : Nat} (h : (lim m).length < (lim n).length) : m < n := by
 rcases Nat.lt_or_ge m n with h1 | h1
 ·exact h1
 ·have := qb4 h1;omega
theorem val_lt_of {xs ys : List Int} (hx : Lim xs) (hy : Lim ys) {i : Nat} (h1 : i < xs.length) (h2 : i < ys.length) (hd : xs.drop (i + 1) = ys.drop (i + 1)) (hlt : xs[i] < ys[i]) : val xs < val ys := by
 rw [qao xs i (by omega),qao ys i (by omega),qas h1,qas h2,hd]
 have k1 := val_lt (hx.take i)
 have k2 := qaf (hy.take i)
 rw [List.length_take,Nat.min_eq_left (by omega)] at k1
 have k3 : pw i * (xs[i] + 4294967296 * val (ys.drop (i + 1))) + pw i ≤ pw i * (ys[i] + 4294967296 * val (ys.drop (i + 1))) := by
  have : pw i * (xs[i] + 4294967296 * val (ys.drop (i + 1))) + pw i = pw i * (xs[i] + 4294967296 * val (ys.drop (i + 1)) + 1) := by grind
  rw [this]
  exact Int.mul_le_mul_of_nonneg_left (by omega) (Int.le_of_lt (pw_pos i))
 omega
theorem mul_le {a b c : Int} (hc : 0 ≤ c) (h : a ≤ b) : a * c ≤ b * c := Int.mul_le_mul_of_nonneg_right h hc
theorem mul_lt {a b c : Int} (hc : 0 < c) (h : a < b) : a * c < b * c := Int.mul_lt_mul_of_pos_right h hc
theorem lt_of_mul {a b c : Int} (hc : 0 ≤ c) (h : a * c < b * c) : a < b := by
 rcases Int.lt_or_le a b with h1 | h1
 ·exact h1
 ·have := mul_le hc h1;omega

/-! The estimate of a digit (Knuth's D). P: the weight of the limbs below the two (three) leading ones. -/
structure Guess (un u1 u2 v1 v2 P U V : Int) : Prop where
 hP : 0 < P
 n0 : 0 ≤ un
 a0 : 0 ≤ u1
 a1 : u1 < 4294967296
 b0 : 0 ≤ u2
 b1 : u2 < 4294967296
 c0 : 2147483648 ≤ v1
 c1 : v1 < 4294967296
 d0 : 0 ≤ v2
 d1 : v2 < 4294967296
 vlo : (v1 * 4294967296 + v2) * P ≤ V
 vhi : V < (v1 * 4294967296 + v2 + 1) * P
 ulo : ((un * 4294967296 + u1) * 4294967296 + u2) * P ≤ U
 uhi : U < ((un * 4294967296 + u1) * 4294967296 + u2 + 1) * P
 small : U < V * 4294967296
structure GInv (un u1 v1 U V q r : Int) : Prop where
 eq : q * v1 + r = un * 4294967296 + u1
 r0 : 0 ≤ r
 q0 : 0 ≤ q
 q1 : q ≤ 4294967297
 up : U < (q + 1) * V

variable {un u1 u2 v1 v2 P U V q r : Int}
theorem Guess.top (h : Guess un u1 u2 v1 v2 P U V) : un ≤ v1 := by
 have k1 : (un * 4294967296) * (4294967296 * P) < ((v1 + 1) * 4294967296) * (4294967296 * P) := by
  have e1 : (un * 4294967296) * (4294967296 * P) ≤ ((un * 4294967296 + u1) * 4294967296 + u2) * P := by
   have := mul_le (a := un * 4294967296 * 4294967296) (b := (un * 4294967296 + u1) * 4294967296 + u2) (c := P) (by have := h.hP;omega) (by have := h.a0;have := h.b0;omega)
   have e : (un * 4294967296) * (4294967296 * P) = un * 4294967296 * 4294967296 * P := by grind
   omega
  have e2 : V * 4294967296 ≤ ((v1 + 1) * 4294967296) * (4294967296 * P) := by
   have := mul_le (a := v1 * 4294967296 + v2 + 1) (b := (v1 + 1) * 4294967296) (c := P) (by have := h.hP;omega) (by have := h.d1;omega)
   have e : ((v1 + 1) * 4294967296) * (4294967296 * P) = ((v1 + 1) * 4294967296) * P * 4294967296 := by grind
   have := h.vhi
   omega
  have := h.ulo;have := h.small
  omega
 have := lt_of_mul (by have := h.hP;omega) k1
 omega
theorem Guess.start (h : Guess un u1 u2 v1 v2 P U V) : GInv un u1 v1 U V ((un * 4294967296 + u1) / v1) ((un * 4294967296 + u1) % v1) := by
 have ht := h.top
 have hv : 0 < v1 := by have := h.c0;omega
 have hd := Int.mul_ediv_add_emod (un * 4294967296 + u1) v1
 have hm0 := Int.emod_nonneg (un * 4294967296 + u1) (b := v1) (by omega)
 have hm1 := Int.emod_lt_of_pos (un * 4294967296 + u1) hv
 have hq0 : 0 ≤ (un * 4294967296 + u1) / v1 := Int.ediv_nonneg (by have := h.n0;have := h.a0;omega) (by omega)
 generalize (un * 4294967296 + u1) / v1 = q at *
 generalize (un * 4294967296 + u1) % v1 = r at *
 have hc := h.c0
 refine ⟨by rw [Int.mul_comm];exact hd,hm0,hq0,?_,?_⟩
 ·rcases Int.lt_or_le 4294967297 q with hlt | hle
  ·exfalso
   have k : 4294967298 * v1 ≤ q * v1 := mul_le (by omega) hlt
   have : q * v1 = v1 * q := Int.mul_comm _ _
   have := h.a1
   omega
  ·exact hle
 ·have k1 : un * 4294967296 + u1 + 1 ≤ (q + 1) * v1 := by
   have : (q + 1) * v1 = v1 * q + v1 := by grind
   omega
  have k2 := mul_le (a := (un * 4294967296 + u1) * 4294967296 + u2 + 1) (b := (un * 4294967296 + u1 + 1) * 4294967296) (c := P) (by have := h.hP;omega) (by have := h.b1;omega)
  have k3 := mul_le (c := 4294967296 * P) (by have := h.hP;omega) k1
  have k4 := mul_le (a := v1 * 4294967296 * P) (b := V) (c := q + 1) (by omega) (by
   have := h.vlo
   have k := mul_le (a := v1 * 4294967296) (b := v1 * 4294967296 + v2) (c := P) (by have := h.hP;omega) (by have := h.d0;omega)
   omega)
  have := h.uhi
  have e1 : (un * 4294967296 + u1 + 1) * (4294967296 * P) = (un * 4294967296 + u1 + 1) * 4294967296 * P := by grind
  have e2 : (q + 1) * v1 * (4294967296 * P) = v1 * 4294967296 * P * (q + 1) := by grind
  have e3 : V * (q + 1) = (q + 1) * V := Int.mul_comm _ _
  omega
theorem Guess.step (h : Guess un u1 u2 v1 v2 P U V) (g : GInv un u1 v1 U V q r) (ht : 4294967296 ≤ q ∨ r * 4294967296 + u2 < q * v2) : GInv un u1 v1 U V (q - 1) (r + v1) ∧ q - 1 ≤ 4294967296 := by
 have hP := h.hP
 have hq1 : 1 ≤ q := by
  rcases ht with ht | ht
  ·omega
  ·have h0 := g.q0
   rcases Int.lt_or_le 0 q with h1 | h1
   ·omega
   ·obtain rfl : q = 0 := by omega
    have := g.r0;have := h.b0
    omega
 have hV : 0 ≤ V := by
  have := h.vlo
  have := Int.mul_nonneg (a := v1 * 4294967296 + v2) (b := P) (by have := h.c0;have := h.d0;omega) (by omega)
  omega
 refine ⟨⟨?_,?_,by omega,?_,?_⟩,by have := g.q1;omega⟩
 ·have := g.eq
  have e : (q - 1) * v1 + (r + v1) = q * v1 + r := by grind
  omega
 ·have := g.r0;have := h.c0;omega
 ·have := g.q1;omega
 ·rw [Int.sub_add_cancel]
  rcases ht with ht | ht
  ·have := mul_le (c := V) hV ht
   have := h.small
   have e : V * 4294967296 = 4294967296 * V := Int.mul_comm _ _
   omega
  ·have k1 : (un * 4294967296 + u1) * 4294967296 + u2 + 1 ≤ q * (v1 * 4294967296 + v2) := by
    have e : q * (v1 * 4294967296 + v2) = (q * v1) * 4294967296 + q * v2 := by grind
    have := g.eq
    omega
   have k2 := mul_le (c := P) (by omega) k1
   have k3 := mul_le (c := q) (by omega) h.vlo
   have := h.uhi
   have e1 : q * (v1 * 4294967296 + v2) * P = (v1 * 4294967296 + v2) * P * q := by grind
   have e2 : V * q = q * V := Int.mul_comm _ _
   omega
theorem Guess.over (h : Guess un u1 u2 v1 v2 P U V) (g : GInv un u1 v1 U V q r) (hq : q ≤ 4294967296) (ht : q * v2 ≤ r * 4294967296 + u2) : (q - 1) * V ≤ U := by
 have hP := h.hP
 have hV : 0 ≤ V := by
  have := h.vlo
  have := Int.mul_nonneg (a := v1 * 4294967296 + v2) (b := P) (by have := h.c0;have := h.d0;omega) (by omega)
  omega
 have hU : 0 ≤ U := by
  have := h.ulo
  have := Int.mul_nonneg (a := (un * 4294967296 + u1) * 4294967296 + u2) (b := P) (by have := h.n0;have := h.a0;have := h.b0;omega) (by omega)
  omega
 rcases Int.lt_or_le 0 q with h1 | h1
 ·have k1 : q * (v1 * 4294967296 + v2) ≤ (un * 4294967296 + u1) * 4294967296 + u2 := by
   have e : q * (v1 * 4294967296 + v2) = (q * v1) * 4294967296 + q * v2 := by grind
   have := g.eq
   omega
  have k2 := mul_le (a := V) (b := (v1 * 4294967296 + v2 + 1) * P) (c := q - 1) (by omega) (by have := h.vhi;omega)
  have k3 : (q - 1) * (v1 * 4294967296 + v2 + 1) ≤ (un * 4294967296 + u1) * 4294967296 + u2 := by
   have e : (q - 1) * (v1 * 4294967296 + v2 + 1) = q * (v1 * 4294967296 + v2) + q - 1 - v1 * 4294967296 - v2 := by grind
   have := h.c0;have := h.d0
   omega
  have k4 := mul_le (c := P) (by omega) k3
  have := h.ulo
  have e1 : V * (q - 1) = (q - 1) * V := Int.mul_comm _ _
  have e2 : (v1 * 4294967296 + v2 + 1) * P * (q - 1) = (q - 1) * (v1 * 4294967296 + v2 + 1) * P := by grind
  omega
 ·have := Int.mul_nonneg (a := 1 - q) (b := V) (by omega) hV
  have e : (1 - q) * V = -((q - 1) * V) := by grind
  omega
theorem Guess.brk (h : Guess un u1 u2 v1 v2 P U V) (g : GInv un u1 v1 U V q r) (hq : q ≤ 4294967296) (hr : 4294967296 ≤ r) : (q - 1) * V ≤ U := by
 refine h.over g hq ?_
 have k1 := mul_le (c := v2) h.d0 hq
 have k2 := h.d1;have := h.b0
 omega
theorem getE {xs : List Int} {i : Nat} (hi : i < xs.length) : xs.getD i 0 = xs[i] := by simp [List.getD,hi]
theorem lead2 {xs : List Int} (h : Lim xs) {k : Nat} (hl : xs.length = k + 2) : (xs[k + 1] * 4294967296 + xs[k]) * pw k ≤ val xs ∧ val xs < (xs[k + 1] * 4294967296 + xs[k] + 1) * pw k := by
 have h1 := qao xs k (by omega)
 have h2 := qas (xs := xs) (i := k) (by omega)
 have h3 := qas (xs := xs) (i := k + 1) (by omega)
 have h5 : xs.drop (k + 1 + 1) = [] := List.drop_of_length_le (by omega)
 rw [h5] at h3
 have k1 := qaf (h.take k)
 have k2 := val_lt (h.take k)
 rw [List.length_take,Nat.min_eq_left (by omega)] at k2
 have e1 : val xs = val (xs.take k) + (xs[k + 1] * 4294967296 + xs[k]) * pw k := by
  rw [h1,h2,h3];simp only [val];grind
 have e2 : (xs[k + 1] * 4294967296 + xs[k] + 1) * pw k = (xs[k + 1] * 4294967296 + xs[k]) * pw k + pw k := by grind
 omega
theorem lead3 {xs : List Int} (h : Lim xs) {k : Nat} (hl : xs.length = k + 3) : ((xs[k + 2] * 4294967296 + xs[k + 1]) * 4294967296 + xs[k]) * pw k ≤ val xs ∧ val xs < ((xs[k + 2] * 4294967296 + xs[k + 1]) * 4294967296 + xs[k] + 1) * pw k := by
 have h1 := qao xs k (by omega)
 have h2 := qas (xs := xs) (i := k) (by omega)
 have h3 := qas (xs := xs) (i := k + 1) (by omega)
 have h4 := qas (xs := xs) (i := k + 2) (by omega)
 have h5 : xs.drop (k + 2 + 1) = [] := List.drop_of_length_le (by omega)
 rw [h5] at h4
 have k1 := qaf (h.take k)
 have k2 := val_lt (h.take k)
 rw [List.length_take,Nat.min_eq_left (by omega)] at k2
 have e1 : val xs = val (xs.take k) + ((xs[k + 2] * 4294967296 + xs[k + 1]) * 4294967296 + xs[k]) * pw k := by
  rw [h1,h2,h3,h4];simp only [val];grind
 have e2 : ((xs[k + 2] * 4294967296 + xs[k + 1]) * 4294967296 + xs[k] + 1) * pw k = ((xs[k + 2] * 4294967296 + xs[k + 1]) * 4294967296 + xs[k]) * pw k + pw k := by grind
 omega
theorem guess_of {u v : List Int} (hu : Lim u) (hv : Lim v) {k : Nat} (h1 : u.length = k + 3) (h2 : v.length = k + 2) (ht : 2147483648 ≤ v[k + 1]) (hs : val u < val v * 4294967296) :
  Guess u[k + 2] u[k + 1] u[k] v[k + 1] v[k] (pw k) (val u) (val v) :=
 ⟨pw_pos k,(hu.get _).1,(hu.get _).1,(hu.get _).2,(hu.get _).1,(hu.get _).2,ht,(hv.get _).2,(hv.get _).1,(hv.get _).2,(lead2 hv h2).1,(lead2 hv h2).2,(lead3 hu h1).1,(lead3 hu h1).2,hs⟩

structure LInv (A V : Int) (n : Nat) (u q : List Int) (j : Nat) : Prop where
 lu : Lim u
 lq : Lim q
 len : u.length = q.length + n
 le : j ≤ q.length
 low : val u < V * pw j
 eq : A = val (q.drop j) * (V * pw j) + val u
theorem LInv.part {A V : Int} {n : Nat} {u q : List Int} {j : Nat} (h : LInv A V n u q (j + 1)) (hV : V < pw n) (_hV0 : 0 < V) :
  val u = val (u.take j) + pw j * val ((u.drop j).take (n + 1)) ∧ val ((u.drop j).take (n + 1)) < V * 4294967296 ∧ ((u.drop j).take (n + 1)).length = n + 1 ∧ val (u.drop (j + (n + 1))) = 0 := by
 have hj := h.le
 have hl := h.len
 have h1 := qao u j (by omega)
 have h2 := qao (u.drop j) (n + 1) (by rw [List.length_drop];omega)
 rw [List.drop_drop] at h2
 have k0 := qaf (h.lu.take j)
 have k1 := qaf ((h.lu.drop j).take (n + 1))
 have k2 := qaf (h.lu.drop (j + (n + 1)))
 have hlow := h.low
 have hP := pw_pos j
 have hN := pw_pos (n + 1)
 have e0 : pw (j + 1) = 4294967296 * pw j := qal j
 have e1 : pw j * val (u.drop j) = pw j * val ((u.drop j).take (n + 1)) + (pw j * pw (n + 1)) * val (u.drop (j + (n + 1))) := by rw [h2];grind
 have hz : val (u.drop (j + (n + 1))) = 0 := by
  rcases Int.lt_or_le 0 (val (u.drop (j + (n + 1)))) with hlt | hle
  ·exfalso
   have a1 := mul_le (c := pw j * pw (n + 1)) (Int.le_of_lt (Int.mul_pos hP hN)) hlt
   have a2 : V * pw (j + 1) ≤ pw n * (4294967296 * pw j) := by rw [e0];exact mul_le (by omega) (by omega)
   have a3 : pw n * (4294967296 * pw j) = pw j * pw (n + 1) := by rw [qal];grind
   have a4 := Int.mul_nonneg (Int.le_of_lt hP) k1
   have a5 : val (u.drop (j + (n + 1))) * (pw j * pw (n + 1)) = pw j * pw (n + 1) * val (u.drop (j + (n + 1))) := Int.mul_comm _ _
   omega
  ·omega
 rw [hz] at e1
 refine ⟨by omega,?_,by rw [List.length_take,List.length_drop];omega,hz⟩
 refine lt_of_mul (c := pw j) (by omega) ?_
 have a1 : V * 4294967296 * pw j = V * pw (j + 1) := by rw [e0];grind
 have a2 : val ((u.drop j).take (n + 1)) * pw j = pw j * val ((u.drop j).take (n + 1)) := Int.mul_comm _ _
 omega
theorem LInv.step {A V : Int} {n : Nat} {u q : List Int} {j : Nat} (h : LInv A V n u q (j + 1)) (hV : V < pw n) (hV0 : 0 < V) {p : List Int} {d : Int} (hp : Lim p) (hpl : p.length = n + 1) (hd : 0 ≤ d ∧ d < 4294967296)
  (he : val ((u.drop j).take (n + 1)) = d * V + val p) (hlt : val p < V) : LInv A V n (u.take j ++ p ++ u.drop (j + (n + 1))) (q.set j d) j := by
 obtain ⟨h1,-,-,h4⟩ := h.part hV hV0
 have hj := h.le
 have hl := h.len
 have lt : (u.take j).length = j := by rw [List.length_take];omega
 have e0 : val (u.take j ++ p ++ u.drop (j + (n + 1))) = val (u.take j) + pw j * val p := by
  rw [val_append,val_append,h4,lt];omega
 have k2 := val_lt (h.lu.take j)
 rw [lt] at k2
 refine ⟨Lim.append.2 ⟨Lim.append.2 ⟨h.lu.take j,hp⟩,h.lu.drop _⟩,h.lq.set _ hd,?_,by rw [List.length_set];omega,?_,?_⟩
 ·rw [List.length_append,List.length_append,lt,hpl,List.length_drop,List.length_set];omega
 ·rw [e0]
  have a1 := mul_le (a := val p + 1) (c := pw j) (Int.le_of_lt (pw_pos j)) hlt
  have a2 : (val p + 1) * pw j = pw j * val p + pw j := by grind
  omega
 ·have e1 : val ((q.set j d).drop j) = d + 4294967296 * val (q.drop (j + 1)) := by
   rw [qas (by rw [List.length_set];omega),List.getElem_set_self,List.drop_set_of_lt (by omega)]
  have e2 := h.eq
  rw [h1,he,qal] at e2
  rw [e0,e1,e2]
  grind
theorem LInv.done {A V : Int} {n : Nat} {u q : List Int} (h : LInv A V n u q 0) : A = val q * V + val u ∧ val u < V := by
 have h1 := h.low;have h2 := h.eq
 rw [pw_zero,Int.mul_one] at h1 h2
 exact ⟨h2,h1⟩
theorem div_of {a b q r : Nat} (h : a = q * b + r) (hr : r < b) : q = a / b ∧ r = a % b := by
 subst h
 constructor
 ·rw [Nat.mul_comm,Nat.mul_add_div (by omega),Nat.div_eq_of_lt hr,Nat.add_zero]
 ·rw [Nat.mul_comm,Nat.mul_add_mod,Nat.mod_eq_of_lt hr]
theorem pw_nat (k : Nat) : pw k = ((2 ^ (32 * k) : Nat) : Int) := by
 induction k with
 | zero => rfl
 | succ k ih =>
  rw [qal,ih,show 32 * (k + 1) = 32 * k + 32 by omega,Nat.pow_add]
  omega
theorem limb_eq {xs : List Int} (h : Lim xs) {k : Nat} (hk : k < xs.length) {N : Nat} (hN : val xs = N) : xs[k] = ((N / 2 ^ (32 * k) % 2 ^ 32 : Nat) : Int) := by
 have h1 := qao xs k (by omega)
 have h2 := qas hk
 have k1 := qaf (h.take k)
 have k2 := val_lt (h.take k)
 rw [List.length_take,Nat.min_eq_left (by omega)] at k2
 have k3 := qaf (h.drop k)
 have k4 := qaf (h.drop (k + 1))
 have k5 := h.get hk
 obtain ⟨p,hp⟩ : ∃ p : Nat,val (xs.take k) = p := ⟨(val (xs.take k)).toNat,by omega⟩
 obtain ⟨d,hd⟩ : ∃ d : Nat,val (xs.drop k) = d := ⟨(val (xs.drop k)).toNat,by omega⟩
 rw [hp,hd,hN,pw_nat] at h1
 rw [hp,pw_nat] at k2
 have e : N = d * 2 ^ (32 * k) + p := by
  have : ((d * 2 ^ (32 * k) + p : Nat) : Int) = (p : Int) + ((2 ^ (32 * k) : Nat) : Int) * (d : Int) := by rw [Int.natCast_add,Int.natCast_mul,Int.mul_comm];omega
  omega
 have := (div_of e (by omega)).1
 rw [← this]
 rw [show (2 : Nat) ^ 32 = 4294967296 from rfl]
 omega
theorem bit_eq {xs : List Int} (h : Lim xs) {i : Nat} (hi : i / 32 < xs.length) {N : Nat} (hN : val xs = N) : xs[i / 32] / 2 ^ (i % 32) % 2 = ((N / 2 ^ i % 2 : Nat) : Int) := by
 rw [limb_eq h hi hN]
 have hlt : i % 32 < 32 := Nat.mod_lt _ (by omega)
 have e : N / 2 ^ (32 * (i / 32)) % 2 ^ 32 / 2 ^ (i % 32) % 2 = N / 2 ^ i % 2 := by
  have a1 : (N / 2 ^ (32 * (i / 32)) % 2 ^ 32).testBit (i % 32) = N.testBit i := by
   rw [Nat.testBit_mod_two_pow,Nat.testBit_div_two_pow]
   simp only [hlt,decide_true,Bool.true_and]
   congr 1;omega
  rw [Nat.testBit_eq_decide_div_mod_eq,Nat.testBit_eq_decide_div_mod_eq] at a1
  have a2 := Nat.mod_lt (N / 2 ^ (32 * (i / 32)) % 2 ^ 32 / 2 ^ (i % 32)) (show 0 < 2 by omega)
  have a3 := Nat.mod_lt (N / 2 ^ i) (show 0 < 2 by omega)
  have a4 := decide_eq_decide.1 a1
  omega
 rw [← e]
 simp
theorem room {xs : List Int} (h : Lim xs) {i : Nat} (hi : i / 32 < xs.length) {Q : Nat} (hN : val xs = ((Q * 2 ^ (i + 1) : Nat) : Int)) : xs[i / 32] + 2 ^ (i % 32) < 4294967296 := by
 rw [limb_eq h hi hN]
 have hlt : i % 32 < 32 := Nat.mod_lt _ (by omega)
 have e1 : Q * 2 ^ (i + 1) / 2 ^ (32 * (i / 32)) = 2 ^ (i % 32 + 1) * Q := by
  have : i + 1 = i % 32 + 1 + 32 * (i / 32) := by omega
  rw [this,Nat.pow_add,← Nat.mul_assoc,Nat.mul_div_cancel _ (Nat.two_pow_pos _),Nat.mul_comm]
 rw [e1]
 have e2 : (2 : Nat) ^ 32 = 2 ^ (i % 32 + 1) * 2 ^ (31 - i % 32) := by rw [← Nat.pow_add];congr 1;omega
 have e3 : 2 ^ (i % 32 + 1) * Q % 2 ^ 32 = 2 ^ (i % 32 + 1) * (Q % 2 ^ (31 - i % 32)) := by rw [e2,Nat.mul_mod_mul_left]
 rw [e3]
 have a1 := Nat.mod_lt Q (Nat.two_pow_pos (31 - i % 32))
 have a2 := Nat.mul_le_mul_left (2 ^ (i % 32 + 1)) (Nat.succ_le_of_lt a1)
 rw [← e2,Nat.succ_eq_add_one,Nat.mul_add,Nat.mul_one] at a2
 have a3 : (2 : Nat) ^ (i % 32 + 1) = 2 * 2 ^ (i % 32) := by rw [Nat.pow_succ,Nat.mul_comm]
 have a4 := Nat.two_pow_pos (i % 32)
 have a5 : ((2 : Int) ^ (i % 32)) = ((2 ^ (i % 32) : Nat) : Int) := by simp
 rw [a5]
 rw [show (2 : Nat) ^ 32 = 4294967296 from rfl] at a2
 omega
theorem val_set_bit {xs : List Int} {i : Nat} (hi : i / 32 < xs.length) : val (xs.set (i / 32) (xs[i / 32] + 2 ^ (i % 32))) = val xs + ((2 ^ i : Nat) : Int) := by
 rw [val_set hi,pw_nat]
 have e : 2 ^ i = 2 ^ (32 * (i / 32)) * 2 ^ (i % 32) := by rw [← Nat.pow_add];congr 1;omega
 rw [e,Int.natCast_mul]
 have : ((2 : Int) ^ (i % 32)) = ((2 ^ (i % 32) : Nat) : Int) := by simp
 rw [this]
 grind
theorem bits_step {N b Q r i : Nat} (h : N / 2 ^ (i + 1) = Q * b + r) : N / 2 ^ i = (2 * Q) * b + (2 * r + N / 2 ^ i % 2) := by
 have e : N / 2 ^ (i + 1) = N / 2 ^ i / 2 := by rw [Nat.pow_succ,Nat.div_div_eq_div_mul]
 rw [e] at h
 have h2 := Nat.div_add_mod (N / 2 ^ i) 2
 rw [h] at h2
 have : 2 * (Q * b + r) = 2 * Q * b + 2 * r := by rw [Nat.mul_add,Nat.mul_assoc]
 omega
def halfAt (xs : List Int) (i : Nat) : Int := (xs.getD (i + 1) 0 % 2 * 4294967296 + xs.getD i 0) / 2
theorem halfs : ∀ {xs : List Int},Lim xs → Lim ((List.range xs.length).map (halfAt xs)) ∧ val ((List.range xs.length).map (halfAt xs)) = val xs / 2
 | [],_ => ⟨Lim.nil,rfl⟩
 | x :: xs, h => by
  obtain ⟨hx,hxs⟩ := Lim.cons.1 h
  have ih := halfs hxs
  have e : (List.range (x :: xs).length).map (halfAt (x :: xs)) = halfAt (x :: xs) 0 :: (List.range xs.length).map (halfAt xs) := by
   rw [List.length_cons,List.range_succ_eq_map,List.map_cons,List.map_map]
   congr 1
  have hg := hxs.getD 0
  have hm : val xs % 2 = xs.getD 0 0 % 2 := by
   cases xs with
   | nil => rfl
   | cons y ys => simp only [val,List.getD_cons_zero];omega
  have h0 : halfAt (x :: xs) 0 = (xs.getD 0 0 % 2 * 4294967296 + x) / 2 := by simp [halfAt]
  rw [e]
  refine ⟨Lim.cons.2 ⟨by rw [h0];omega,ih.1⟩,?_⟩
  simp only [val]
  rw [ih.2,h0]
  omega
theorem gcd_even (x y : Nat) (hx : x % 2 = 0) (hy : y % 2 = 0) : Nat.gcd x y = 2 * Nat.gcd (x / 2) (y / 2) := by
 rw [← Nat.gcd_mul_left];congr 1 <;> omega
theorem gcd_half (x y : Nat) (hx : x % 2 = 0) (hy : y % 2 = 1) : Nat.gcd x y = Nat.gcd (x / 2) y := by
 have e : x = x / 2 * 2 := by omega
 have hc : Nat.Coprime 2 y := by
  rw [Nat.Coprime,Nat.gcd_rec,hy];rfl
 conv => lhs;rw [e]
 exact Nat.Coprime.gcd_mul_right_cancel (x / 2) hc
theorem gcd_half' (x y : Nat) (hx : x % 2 = 1) (hy : y % 2 = 0) : Nat.gcd x y = Nat.gcd x (y / 2) := by
 rw [Nat.gcd_comm,gcd_half y x hy hx,Nat.gcd_comm]
theorem gcd_less (x y : Nat) (h : x ≤ y) : Nat.gcd x y = Nat.gcd x (y - x) := (Nat.gcd_sub_self_right h).symm
theorem gcd_less' (x y : Nat) (h : y ≤ x) : Nat.gcd x y = Nat.gcd (x - y) y := (Nat.gcd_sub_self_left h).symm
theorem top_bit (z : Nat) (h : z < 4294967296) : z / 2147483648 = (if z.testBit 31 then 1 else 0) := by
 rw [Nat.testBit_eq_decide_div_mod_eq]
 simp only [decide_eq_true_eq,show (2:Nat)^31 = 2147483648 from rfl]
 split <;> omega
theorem tb (z : Nat) (h : z < 4294967296) : z.testBit 31 = decide (2147483648 ≤ z) := by
 rw [Nat.testBit_eq_decide_div_mod_eq]
 congr 1
 simp only [show (2:Nat)^31 = 2147483648 from rfl,eq_iff_iff]
 omega
theorem borrow_eq (x y b d : Nat) (hx : x < 4294967296) (hy : y < 4294967296) (hb : b ≤ 1) (hd : d = (x + 4294967296 - y - b) % 4294967296) :
  ((4294967295 - x) &&& y ||| (4294967295 - (x ^^^ y)) &&& d) / 2147483648 = (if x < y + b then 1 else 0) := by
 have hdl : d < 4294967296 := by rw [hd];exact Nat.mod_lt _ (by omega)
 have hxy : x ^^^ y < 4294967296 := Nat.xor_lt_two_pow (n := 32) hx hy
 have hz : (4294967295 - x) &&& y ||| (4294967295 - (x ^^^ y)) &&& d < 4294967296 :=
  Nat.or_lt_two_pow (n := 32) (Nat.and_lt_two_pow _ (n := 32) hy) (Nat.and_lt_two_pow _ (n := 32) hdl)
 rw [top_bit _ hz,Nat.testBit_or,Nat.testBit_and,Nat.testBit_and,tb _ (by omega),tb y hy,tb _ (by omega),tb d hdl]
 have hxt : decide (2147483648 ≤ x ^^^ y) = (decide (2147483648 ≤ x) ^^ decide (2147483648 ≤ y)) := by
  rw [← tb _ hxy,Nat.testBit_xor,tb x hx,tb y hy]
 have h3 : decide (2147483648 ≤ 4294967295 - (x ^^^ y)) = !(decide (2147483648 ≤ x) ^^ decide (2147483648 ≤ y)) := by
  rw [← hxt]
  by_cases h : 2147483648 ≤ x ^^^ y
  ·rw [decide_eq_true h];simp only [Bool.not_true,decide_eq_false_iff_not];omega
  ·rw [decide_eq_false h];simp only [Bool.not_false,decide_eq_true_eq];omega
 rw [h3]
 by_cases c1 : 2147483648 ≤ x <;> by_cases c2 : 2147483648 ≤ y <;> by_cases c3 : 2147483648 ≤ d <;>
  simp only [c1,c2,c3,show decide (2147483648 ≤ 4294967295 - x) = !decide (2147483648 ≤ x) by (by_cases h : 2147483648 ≤ x <;> simp [h] <;> omega),decide_true,decide_false,Bool.not_true,Bool.not_false,Bool.and_true,Bool.and_false,Bool.or_false,Bool.or_true,Bool.xor_true,Bool.xor_false,if_true,Bool.false_eq_true,if_false] <;>
  split <;> omega
theorem shl_or (x c s : Nat) (hs : s < 32) (hc : c < 2 ^ s) : (x * 2 ^ s % 4294967296) ||| c = x * 2 ^ s % 4294967296 + c ∧ x * 2 ^ s % 4294967296 + c < 4294967296 := by
 have e : (4294967296 : Nat) = 2 ^ (32 - s) * 2 ^ s := by rw [← Nat.pow_add,show 32 - s + s = 32 by omega]
 have e2 : x * 2 ^ s % 4294967296 = x % 2 ^ (32 - s) * 2 ^ s := by rw [e,Nat.mul_mod_mul_right]
 rw [e2]
 constructor
 ·rw [← Nat.shiftLeft_eq,Nat.shiftLeft_add_eq_or_of_lt hc]
 ·have h1 := Nat.mod_lt x (Nat.two_pow_pos (32 - s))
  have h2 := Nat.mul_le_mul_right (2 ^ s) (Nat.succ_le_of_lt h1)
  rw [← e,Nat.succ_eq_add_one,Nat.add_mul,Nat.one_mul] at h2
  omega
def shl (s : Nat) : Nat → List Int → List Int
 | c,[] => [(c : Int)]
 | c,x :: xs => ((x.toNat * 2 ^ s % 4294967296 + c : Nat) : Int) :: shl s (x.toNat * 2 ^ s / 4294967296) xs
theorem carry_lt (x s : Nat) (hx : x < 4294967296) : x * 2 ^ s / 4294967296 < 2 ^ s := by
 rw [Nat.div_lt_iff_lt_mul (by omega),Nat.mul_comm]
 exact Nat.mul_lt_mul_of_pos_left hx (Nat.two_pow_pos s)
theorem shl_spec (s : Nat) (hs : s < 32) : ∀ {xs : List Int},Lim xs → ∀ c,c < 2 ^ s → Lim (shl s c xs) ∧ (shl s c xs).length = xs.length + 1 ∧ val (shl s c xs) = (c : Int) + ((2 ^ s : Nat) : Int) * val xs
 | [],_,c,hc => by
  have : 2 ^ s < 2 ^ 32 := Nat.pow_lt_pow_right (by omega) hs
  refine ⟨by intro x hx;simp [shl] at hx;omega,rfl,by simp [shl,val]⟩
 | x :: xs, h, c, hc => by
  obtain ⟨hx,hxs⟩ := Lim.cons.1 h
  obtain ⟨y,rfl⟩ : ∃ y : Nat,x = y := ⟨x.toNat,by omega⟩
  have hy : y < 4294967296 := by omega
  obtain ⟨h1,h2,h3⟩ := shl_spec s hs hxs (y * 2 ^ s / 4294967296) (carry_lt y s hy)
  obtain ⟨-,h4⟩ := shl_or y c s hs hc
  simp only [shl,Int.toNat_natCast]
  refine ⟨Lim.cons.2 ⟨by omega,h1⟩,by rw [List.length_cons,List.length_cons,h2],?_⟩
  simp only [val]
  rw [h3]
  have e := Nat.div_add_mod (y * 2 ^ s) 4294967296
  have e2 : ((2 ^ s : Nat) : Int) * ((y : Int) + 4294967296 * val xs) = ((y * 2 ^ s : Nat) : Int) + 4294967296 * (((2 ^ s : Nat) : Int) * val xs) := by
   rw [Int.natCast_mul];grind
  rw [e2,← e]
  rw [Int.natCast_add,Int.natCast_add,Int.natCast_mul]
  grind
theorem shl_get (s : Nat) : ∀ {xs : List Int} (c i : Nat) (hi : i < (shl s c xs).length),(shl s c xs)[i] = (((xs.getD i 0).toNat * 2 ^ s % 4294967296 + (if i = 0 then c else (xs.getD (i - 1) 0).toNat * 2 ^ s / 4294967296) : Nat) : Int)
 | [],c,i,hi => by
  have : i = 0 := by simp [shl] at hi;omega
  subst this
  simp [shl]
 | x :: xs,c,0,hi => by simp [shl]
 | x :: xs, c, i + 1, hi => by
  simp only [shl,List.getElem_cons_succ]
  rw [shl_get s _ i]
  congr 2
  by_cases h : i = 0
  ·subst h;simp
  ·obtain ⟨j, rfl⟩ : ∃ j, i = j + 1 := ⟨i - 1, by omega⟩
   simp
def shrAt (xs : List Int) (s i : Nat) : Int := ((xs.getD (i + 1) 0 * 4294967296 + xs.getD i 0) / ((2 ^ s : Nat) : Int)) % 4294967296
theorem shr_one (x h V s : Nat) (hs : s < 32) (hx : x < 4294967296) (hh : V % 4294967296 = h) : (h * 4294967296 + x) / 2 ^ s % 4294967296 + 4294967296 * (V / 2 ^ s) = (x + 4294967296 * V) / 2 ^ s := by
 have hK := Nat.two_pow_pos s
 have e : (4294967296 : Nat) = 2 ^ s * 2 ^ (32 - s) := by rw [← Nat.pow_add,show s + (32 - s) = 32 by omega]
 generalize hKe : 2 ^ s = K at *
 generalize 2 ^ (32 - s) = L at *
 have a1 : (x + 4294967296 * V) / K = x / K + L * V := by
  rw [e,Nat.mul_assoc,Nat.add_mul_div_left _ _ hK]
 have a2 : (h * 4294967296 + x) / K = x / K + L * h := by
  rw [e,Nat.add_comm,show h * (K * L) = K * (L * h) by rw [Nat.mul_comm,Nat.mul_assoc],Nat.add_mul_div_left _ _ hK]
 have a3 : h % K = V % K := by rw [← hh,e,Nat.mod_mul_right_mod]
 have a4 : x / K < L := by rw [Nat.div_lt_iff_lt_mul hK,Nat.mul_comm,← e];exact hx
 have a5 := Nat.div_add_mod h K
 have a6 := Nat.div_add_mod V K
 have a7 := Nat.mod_lt V hK
 rw [a1,a2]
 have b1 : L * h = 4294967296 * (h / K) + L * (V % K) := by
  rw [← a3]
  conv => lhs;rw [← a5]
  rw [Nat.mul_add,← Nat.mul_assoc,Nat.mul_comm L K,← e]
 have b2 : L * V = 4294967296 * (V / K) + L * (V % K) := by
  conv => lhs;rw [← a6]
  rw [Nat.mul_add,← Nat.mul_assoc,Nat.mul_comm L K,← e]
 have b3 : x / K + L * (V % K) < 4294967296 := by
  have := Nat.mul_le_mul_left L (Nat.succ_le_of_lt a7)
  rw [Nat.succ_eq_add_one,Nat.mul_add,Nat.mul_one,Nat.mul_comm L K,← e] at this
  omega
 rw [b1,b2]
 clear a1 a2 a3 a4 a5 a6 a7 b1 b2 e hh
 generalize x / K = p at *
 generalize h / K = p1 at *
 generalize V / K = p2 at *
 generalize L * (V % K) = p3 at *
 omega
theorem shrs (s : Nat) (hs : s < 32) : ∀ {xs : List Int},Lim xs → Lim ((List.range xs.length).map (shrAt xs s)) ∧ val ((List.range xs.length).map (shrAt xs s)) = val xs / ((2 ^ s : Nat) : Int)
 | [],_ => ⟨Lim.nil,by simp [val]⟩
 | x :: xs, h => by
  obtain ⟨hx,hxs⟩ := Lim.cons.1 h
  have ih := shrs s hs hxs
  have e : (List.range (x :: xs).length).map (shrAt (x :: xs) s) = shrAt (x :: xs) s 0 :: (List.range xs.length).map (shrAt xs s) := by
   rw [List.length_cons,List.range_succ_eq_map,List.map_cons,List.map_map]
   congr 1
  have hg := hxs.getD 0
  have hm : val xs % 4294967296 = xs.getD 0 0 := by
   cases xs with
   | nil => rfl
   | cons y ys => have := (Lim.cons.1 hxs).1;simp only [val,List.getD_cons_zero];omega
  have h0 : shrAt (x :: xs) s 0 = (xs.getD 0 0 * 4294967296 + x) / ((2 ^ s : Nat) : Int) % 4294967296 := by simp [shrAt]
  rw [e]
  refine ⟨Lim.cons.2 ⟨by rw [h0];omega,ih.1⟩,?_⟩
  simp only [val]
  rw [ih.2,h0]
  have hV := qaf hxs
  obtain ⟨V,hVe⟩ : ∃ V : Nat,val xs = V := ⟨(val xs).toNat,by omega⟩
  obtain ⟨y,rfl⟩ : ∃ y : Nat,x = y := ⟨x.toNat,by omega⟩
  rw [hVe] at hm ⊢
  rw [← hm]
  have := shr_one y (V % 4294967296) V s hs (by omega) rfl
  have := congrArg (fun n : Nat => (n : Int)) this
  simp only [Int.natCast_add,Int.natCast_mul,Int.natCast_ediv,Int.natCast_emod] at this
  exact this
end Go.Proofs.YthcbkhfmdginiaaGreat.Limb

namespace Go.Proofs.YthcbkhfmdginiaaGreat
section
open Go Go.RowKit

def Arr (k : IntKind) (w : World) (g : Nat) (e : TypeId) (xs : List Int) : Prop := w.heap[g]? = some (.cells (xs.map (Value.int k)).toArray e (0,0))
variable {k : IntKind} {w w' : World} {g : Nat} {e : TypeId} {xs : List Int}
theorem Arr.lt (h : Arr k w g e xs) : g < w.heap.size := qa0 h
theorem Arr.cell (h : Arr k w g e xs) {i : Nat} (hi : i < xs.length) : w.cell? ⟨g,i,none⟩ = some (.int k xs[i]) := by
 unfold Arr at h;simp [World.cell?,h,hi]
theorem Arr.frozen (h : Arr k w g e xs) (i : Nat) : w.frozen? ⟨g,i,none⟩ = false := by unfold Arr at h;simp [World.frozen?,h]
theorem Arr.set (h : Arr k w g e xs) (i : Nat) (y : Int) : Arr k (w.setCell ⟨g,i,none⟩ (.int k y)) g e (xs.set i y) := by
 have := qa2 h (o := i) (.int k y)
 unfold Arr
 rw [this]
 congr 2
 simp
theorem Arr.other (h : Arr k w g e xs) {p : Addr} (hp : p.block ≠ g) (u : Value) : Arr k (w.setCell p u) g e xs := (Below.heap_setCell w p u g (fun e => hp e.symm)).trans h
theorem Arr.same {S : Nat → Prop} (h : Arr k w g e xs) (hs : Same S w w') (hS : S g) : Arr k w' g e xs := (hs g h.lt hS).trans h
theorem Arr.below (h : Arr k w g e xs) (hb : Below w.heap.size w w') : Arr k w' g e xs := (hb.block g h.lt).trans h
theorem Arr.grown (h : Arr k w g e xs) {row : Option Nat} (hb : w.grownBy w' row) (hr : some g ≠ row) : Arr k w' g e xs := (hb.block g h.lt hr).trans h
theorem Arr.made (w : World) (n : Nat) (e : TypeId) : Arr k (w.alloc (.cells (Array.replicate n (.int k 0)) e)) w.heap.size e (List.replicate n 0) := by
 unfold Arr
 rw [qa8]
 congr 2
 simp
theorem Arr.rsl (h : Arr k w g e xs) {S : Nat → Prop} (hS : S g) (hw : ∀ x ∈ xs,(Lit.int k x).wf = true) (hl : xs.length ≤ 140737488355328) {off n cap : Nat} (ho : off + n ≤ xs.length) (hc : n ≤ cap) :
  RSl S 1 (dInt k) w (.slice (some ⟨g,off,none⟩) n cap) ((xs.drop off).take n) := by
 have hlen : ((xs.drop off).take n).length = n := by rw [List.length_take,List.length_drop];omega
 refine ⟨_,cap,((xs.drop off).take n).map (Value.int k),by rw [hlen],by omega,by omega,⟨by simp,fun i hi => ?_⟩,.inr ⟨g,off,rfl,hS,fun j u hu => ?_⟩⟩
 ·have hi' : i < (((xs.drop off).take n).map (Value.int k)).length := by simpa using hi
  rw [Nat.mul_one,List.drop_eq_getElem_cons hi',List.take_succ_cons,List.take_zero,List.getElem_map]
  exact ⟨rfl,hw _ (List.mem_of_mem_drop (List.mem_of_mem_take (List.getElem_mem hi)))⟩
 ·rw [List.getElem?_map] at hu
  obtain ⟨x,hx,rfl⟩ := Option.map_eq_some_iff.1 hu
  have hj : j < n := by
   rcases Nat.lt_or_ge j n with h1 | h1
   ·exact h1
   ·rw [List.getElem?_eq_none (by omega)] at hx;cases hx
  rw [List.getElem?_take_of_lt hj,List.getElem?_drop] at hx
  have hlt : off + j < xs.length := by omega
  rw [List.getElem?_eq_getElem hlt] at hx
  cases hx
  exact h.cell hlt
theorem Arr.all (h : Arr k w g e xs) {S : Nat → Prop} (hS : S g) (hw : ∀ x ∈ xs,(Lit.int k x).wf = true) (hl : xs.length ≤ 140737488355328) {n cap : Nat} (hn : n = xs.length) (hc : n ≤ cap) :
  RSl S 1 (dInt k) w (.slice (some ⟨g,0,none⟩) n cap) xs := by
 have := h.rsl hS hw hl (off := 0) (n := n) (by omega) hc
 rwa [List.drop_zero,hn,List.take_length,← hn] at this
def RU (S : Nat → Prop) (w : World) (v : Value) (xs : List Int) : Prop := RSl S 1 (dInt .u32) w v xs
theorem RU.same {S : Nat → Prop} {v : Value} (hs : Same S w w') (h : RU S w v xs) : RU S w' v xs := RSl.same (dInt.stable S _) hs h
theorem RU.below {S : Nat → Prop} {v : Value} (h : RU S w v xs) (hb : Below w.heap.size w w') : RU S w' v xs := h.same (.of_below hb)
theorem wf_u32 {x : Int} : (Lit.int .u32 x).wf = true ↔ 0 ≤ x ∧ x < 4294967296 := by
 simp [Lit.wf,IntKind.min,IntKind.max,IntKind.bits,IntKind.signed]
 omega
theorem Limb.Lim.wf {xs : List Int} (h : Limb.Lim xs) : ∀ x ∈ xs,(Lit.int .u32 x).wf = true := fun x hx => wf_u32.2 (h x hx)
theorem RSl.mem1 {α : Type} {S : Nat → Prop} {dec : World → List Value → α → Prop} {v : Value} {ys : List α} (h : RSl S 1 dec w v ys) : ∀ x ∈ ys,∃ c,dec w [c] x := by
 intro x hx
 obtain ⟨i,hi,rfl⟩ := List.getElem_of_mem hx
 obtain ⟨b,off,cap,c,_,_,_,hd⟩ := h.get1 i hi
 exact ⟨c,hd⟩
theorem RU.lim {S : Nat → Prop} {v : Value} (h : RU S w v xs) : Limb.Lim xs := fun x hx => by
 obtain ⟨c,hc⟩ := RSl.mem1 h x hx
 exact wf_u32.1 hc.open.2
theorem RU.at {S : Nat → Prop} {a : Option Addr} {n cap : Nat} (h : RU S w (.slice a n cap) xs) {i : Nat} (hi : i < xs.length) :
  ∃ b off,a = some ⟨b,off,none⟩ ∧ S b ∧ b < w.heap.size ∧ w.cell? ⟨b,off + i,none⟩ = some (.int .u32 xs[i]) ∧ 0 ≤ xs[i] ∧ xs[i] < 4294967296 := by
 obtain ⟨b,off,c,rfl,hS,hb,hc,hd⟩ := RSl.at1 h i hi
 obtain ⟨rfl,hw⟩ := hd.open
 exact ⟨b,off,rfl,hS,hb,hc,wf_u32.1 hw⟩
end

section
open Go Go.RowKit Go.Shelf Limb

def chkN (xs : List Int) : Int := if 96 < xs.length then 4 else if xs.getD (xs.length - 1) 1 = 0 then 8 else 0
theorem lim_of_chk {xs : List Int} (hl : Lim xs) (h : chkN xs = 0) : ∃ n,xs = lim n ∧ (lim n).length ≤ 96 := by
 unfold chkN at h
 split at h
 ·cases h
 ·rename_i h1
  split at h
  ·cases h
  ·rename_i h2
   have e : xs = lim (val xs).toNat := eq_lim hl (fun h0 => by
    have h3 : xs.length - 1 < xs.length := by have := List.length_pos_iff.2 h0;omega
    rw [List.getD,List.getElem?_eq_getElem h3] at h2
    rw [List.getLast_eq_getElem]
    exact h2)
   exact ⟨_,e,by rw [← e];omega⟩
theorem qb1 {n : Nat} (h : (lim n).length ≤ 96) : chkN (lim n) = 0 := by
 unfold chkN
 rw [if_neg (by omega),if_neg]
 intro h2
 by_cases h0 : lim n = []
 ·rw [h0] at h2;simp at h2
 ·have h3 : (lim n).length - 1 < (lim n).length := by have := List.length_pos_iff.2 h0; omega
  rw [List.getD,List.getElem?_eq_getElem h3] at h2
  have := lim_last h0
  rw [List.getLast_eq_getElem] at this
  exact this h2
set_option maxHeartbeats 400000 in
theorem natCheck (S : Nat → Prop) (v : Value) (xs : List Int) (w : World) (h : RU S w v xs) :
  Calls Tryz.prog 166 #[v] w fun e w' => e = .returned (.int .i64 (chkN xs)) ∧ w = w' := by
 obtain ⟨a,cap,rfl,h1,h2⟩ := RSl.shape h
 by_cases hl : 96 < xs.length
 ·have hr : chkN xs = 4 := by rw [chkN, if_pos hl]
  have Hr := Lib.hid hr;clear hr h
  go_enter Tryz.func166,Tryz.ntmps166
  go_wp2
  go_ret
  exact ⟨qac Hr.out.symm,rfl⟩
 by_cases h0 : xs.length = 0
 ·have hx : xs = [] := List.eq_nil_of_length_eq_zero h0
  subst hx
  go_enter Tryz.func166,Tryz.ntmps166
  go_wp2
  go_ret
  exact ⟨rfl,rfl⟩
 obtain ⟨n,hn⟩ : ∃ n,xs.length = n + 1 := ⟨xs.length - 1,by omega⟩
 obtain ⟨b,off,rfl,-,-,hc,-,-⟩ := RU.at h (i := n) (by omega)
 have hg : xs.getD (xs.length - 1) 1 = xs[n] := by
  have e : xs.length - 1 = n := by omega
  rw [e,List.getD,List.getElem?_eq_getElem (by omega)];rfl
 have hr : chkN xs = if xs[n] = 0 then 8 else 0 := by rw [chkN,if_neg hl,hg]
 obtain ⟨x,hx⟩ : ∃ x,xs[n] = x := ⟨_,rfl⟩
 rw [hx] at hc hr
 rw [hn] at hl
 have hl1 : ¬ (96 : Int) < (n : Int) + 1 := by omega
 have hl2 : (0 : Int) < (n : Int) + 1 := by omega
 have hl3 : (n : Int) < (n : Int) + 1 := by omega
 have Hr := Lib.hid hr
 clear hr h hg hx
 generalize xs.length = L at *
 subst hn
 by_cases hx0 : x = 0
 ·subst hx0
  go_enter Tryz.func166,Tryz.ntmps166
  go_wp2
  go_ret
  exact ⟨qac (by rw [Hr.out];simp),rfl⟩
 ·have hxb : (x == 0) = false := beq_eq_false_iff_ne.2 hx0
  go_enter Tryz.func166,Tryz.ntmps166
  go_wp2
  go_ret
  exact ⟨qac (by rw [Hr.out,if_neg hx0]),rfl⟩
def chkNN (xs ys : List Int) : Int := if chkN xs ≠ 0 then chkN xs else chkN ys
set_option maxHeartbeats 400000 in
theorem natBoth (S T : Nat → Prop) (u v : Value) (xs ys : List Int) (w : World) (h : RU S w u xs) (k : RU T w v ys) :
  Calls Tryz.prog 169 #[u,v] w fun e w' => e = .returned (.int .i64 (chkNN xs ys)) ∧ w = w' := by
 have h1 := natCheck S u xs w h
 have h2 := natCheck T v ys w k
 obtain ⟨c,hc⟩ : ∃ c,chkN xs = c := ⟨_,rfl⟩
 obtain ⟨d,hd⟩ : ∃ d,chkN ys = d := ⟨_,rfl⟩
 have hr : chkNN xs ys = if c ≠ 0 then c else d := by rw [chkNN,hc,hd]
 rw [hc] at h1
 rw [hd] at h2
 obtain ⟨a1,cap1,rfl,-,-⟩ := RSl.shape h
 obtain ⟨a2,cap2,rfl,-,-⟩ := RSl.shape k
 have Hr := Lib.hid hr;have H1 := Lib.hid h1;have H2 := Lib.hid h2
 clear hr h1 h2 hc hd h k
 by_cases hc0 : c = 0
 ·subst hc0
  go_enter Tryz.func169,Tryz.ntmps169
  go_wp2_with (first
   | (go_at_call_of 166 (a1);refine H1.out.mono ?_;rintro e w1 ⟨rfl,rfl⟩)
   | (go_at_call 166;refine H2.out.mono ?_;rintro e w1 ⟨rfl,rfl⟩))
  go_ret
  exact ⟨qac (by rw [Hr.out];simp),rfl⟩
 ·have hcb : (c != 0) = true := bne_iff_ne.2 hc0
  go_enter Tryz.func169,Tryz.ntmps169
  go_wp2_with (go_at_call 166;refine H1.out.mono ?_;rintro e w1 ⟨rfl,rfl⟩)
  go_ret
  exact ⟨qac (by rw [Hr.out,if_pos hc0]),rfl⟩
end

section
open Go Go.RowKit Go.Shelf Limb

def cmpN (m n : Nat) : Int := if m < n then -1 else if n < m then 1 else 0
def cmpV (xs ys : List Int) : Int := if val xs < val ys then -1 else if val ys < val xs then 1 else 0
set_option maxHeartbeats 1000000 in
theorem natOrder_eq (S T : Nat → Prop) (a1 a2 : Option Addr) (L c1 c2 : Nat) (xs ys : List Int) (w : World) (hx : xs.length = L) (hy : ys.length = L) (h : RU S w (.slice a1 L c1) xs) (k : RU T w (.slice a2 L c2) ys) :
  Calls Tryz.prog 170 #[.slice a1 L c1,.slice a2 L c2] w fun e w' => e = .returned (.int .i64 (cmpV xs ys)) ∧ Below w.heap.size w w' := by
 have hll : L ≤ 140737488355328 := by have := (RSl.shape h).choose_spec.choose_spec.2.2;omega
 have Hx := Lib.hid hx;have Hy := Lib.hid hy
 clear hx hy
 go_enter Tryz.func170,Tryz.ntmps170
 go_wp2
 go_loopw [5] (fun i wr => ((i = .int .i64 (-1) ∧ Hid (xs.drop 0 = ys.drop 0)) ∨ ∃ j : Nat,j < L ∧ i = .int .i64 j ∧ Hid (xs.drop (j + 1) = ys.drop (j + 1))) ∧ Below w.heap.size w wr) (fun i _ => (intOf i + 1).toNat)
 case atStart =>
  refine ⟨?_,Below.refl _ _⟩
  by_cases h0 : L = 0
  ·subst h0
   exact .inl ⟨by simp,Lib.hid (by have := Hx.out;have := Hy.out;rw [List.drop_of_length_le (by omega),List.drop_of_length_le (by omega)])⟩
  ·refine .inr ⟨L - 1, by omega, ?_, Lib.hid ?_⟩
   ·congr 1;omega
   ·have := Hx.out; have := Hy.out
    rw [List.drop_of_length_le (by omega),List.drop_of_length_le (by omega)]
 case round =>
  obtain ⟨hrel,hb⟩ := hrel
  rcases hrel with ⟨rfl,hd⟩ | ⟨j,hj,rfl,hd⟩
  ·have hr : cmpV xs ys = 0 := by
    have : xs = ys := hd.out
    rw [cmpV,this,if_neg (by omega),if_neg (by omega)]
   have Hr := Lib.hid hr
   clear hr
   go_wp2
   go_ret
   exact ⟨qac Hr.out.symm,hb⟩
  ·have hjx : j < xs.length := by have := Hx.out; omega
   have hjy : j < ys.length := by have := Hy.out;omega
   obtain ⟨b,off,rfl,-,-,hc,-,-⟩ := RU.at h hjx
   obtain ⟨b2,off2,rfl,-,-,hc2,-,-⟩ := RU.at k hjy
   have hlx := RU.lim h
   have hly := RU.lim k
   have e1 := fun p => qa7 (w := wr) ((Same.of_below (S := Any) hb).cell trivial hc) p
   have e2 := fun p => qa7 (w := wr) ((Same.of_below (S := Any) hb).cell trivial hc2) p
   clear hc hc2
   have hji : (j : Int) < (L : Int) := by omega
   rcases Int.lt_trichotomy xs[j] ys[j] with hlt | heq | hgt
   ·have hr : cmpV xs ys = -1 := by rw [cmpV, if_pos (val_lt_of hlx hly hjx hjy hd.out hlt)]
    have Hr := Lib.hid hr
    clear hr h k
    go_wp2
    refine qa3 (by kernel_rfl) (by kernel_rfl) ?_
    repeat (go_big_quiet_step (fail))
    refine wpQuiet_nil ?_
    intro _ hw';obtain ⟨p,rfl⟩ := hw'
    go_wp2
    go_ret
    exact ⟨qac Hr.out.symm,hb.trans ((qa4 wr p).mono hb.size)⟩
   ·have hdj : xs.drop j = ys.drop j := by rw [List.drop_eq_getElem_cons hjx, List.drop_eq_getElem_cons hjy, heq, hd.out]
    have hn1 : ¬ xs[j] < ys[j] := by omega
    have hn2 : ¬ ys[j] < xs[j] := by omega
    have Hdj := Lib.hid hdj
    clear hdj heq h k
    go_wp2
    refine qa3 (by kernel_rfl) (by kernel_rfl) ?_
    repeat (go_big_quiet_step (fail))
    refine wpQuiet_nil ?_
    intro _ hw';obtain ⟨p,rfl⟩ := hw'
    have hb' : Below w.heap.size w (ext wr p) := hb.trans ((qa4 wr p).mono hb.size)
    have e1 := fun q => qa7 (w := ext wr p) (e1 p) q
    have e2 := fun q => qa7 (w := ext wr p) (e2 p) q
    go_wp2
    refine qa3 (by kernel_rfl) (by kernel_rfl) ?_
    repeat (go_big_quiet_step (fail))
    refine wpQuiet_nil ?_
    intro _ hw';obtain ⟨q,rfl⟩ := hw'
    have hb2 : Below w.heap.size w (ext (ext wr p) q) := hb'.trans ((qa4 (ext wr p) q).mono hb'.size)
    go_wp2
    refine ⟨⟨?_,hb2⟩,by simp [intOf]⟩
    cases j with
    | zero => exact .inl ⟨by simp,Hdj⟩
    | succ j => exact .inr ⟨j,by omega,by congr 1;simp,Hdj⟩
   ·have hr : cmpV xs ys = 1 := by
     have := val_lt_of hly hlx hjy hjx hd.out.symm hgt
     rw [cmpV,if_neg (by omega),if_pos this]
    have hn1 : ¬ xs[j] < ys[j] := by omega
    have Hr := Lib.hid hr
    clear hr h k
    go_wp2
    refine qa3 (by kernel_rfl) (by kernel_rfl) ?_
    repeat (go_big_quiet_step (fail))
    refine wpQuiet_nil ?_
    intro _ hw';obtain ⟨p,rfl⟩ := hw'
    have hb' : Below w.heap.size w (ext wr p) := hb.trans ((qa4 wr p).mono hb.size)
    have e1 := fun q => qa7 (w := ext wr p) (e1 p) q
    have e2 := fun q => qa7 (w := ext wr p) (e2 p) q
    go_wp2
    refine qa3 (by kernel_rfl) (by kernel_rfl) ?_
    repeat (go_big_quiet_step (fail))
    refine wpQuiet_nil ?_
    intro _ hw';obtain ⟨q,rfl⟩ := hw'
    go_wp2
    go_ret
    exact ⟨qac Hr.out.symm,hb'.trans ((qa4 (ext wr p) q).mono hb'.size)⟩
set_option maxHeartbeats 1000000 in
theorem natOrder (S T : Nat → Prop) (u v : Value) (m n : Nat) (w : World) (h : RU S w u (lim m)) (k : RU T w v (lim n)) :
  Calls Tryz.prog 170 #[u,v] w fun e w' => e = .returned (.int .i64 (cmpN m n)) ∧ Below w.heap.size w w' := by
 obtain ⟨a1,cap1,rfl,h1,h2⟩ := RSl.shape h
 obtain ⟨a2,cap2,rfl,k1,k2⟩ := RSl.shape k
 by_cases hl : (lim m).length = (lim n).length
 case neg =>
  have hl' : (((lim m).length : Int) != ((lim n).length : Int)) = true := bne_iff_ne.2 (by omega)
  by_cases hlt : (lim m).length < (lim n).length
  ·have hr : cmpN m n = -1 := by rw [cmpN, if_pos (lt_of_length hlt)]
   have hm1 : min (1 : Int) (((lim m).length : Int) - ((lim n).length : Int)) = ((lim m).length : Int) - ((lim n).length : Int) := by omega
   have hm2 : max (-1 : Int) (((lim m).length : Int) - ((lim n).length : Int)) = -1 := by omega
   have Hr := Lib.hid hr;clear hr h k hl
   go_enter Tryz.func170,Tryz.ntmps170
   go_wp2
   go_ret
   exact ⟨qac Hr.out.symm,Below.refl _ _⟩
  ·have hgt : (lim n).length < (lim m).length := by omega
   have hr : cmpN m n = 1 := by
    have := lt_of_length hgt
    rw [cmpN,if_neg (by omega),if_pos this]
   have hm1 : min (1 : Int) (((lim m).length : Int) - ((lim n).length : Int)) = 1 := by omega
   have Hr := Lib.hid hr;clear hr h k hl
   go_enter Tryz.func170,Tryz.ntmps170
   go_wp2
   go_ret
   exact ⟨qac Hr.out.symm,Below.refl _ _⟩
 have hr : cmpV (lim m) (lim n) = cmpN m n := by
  unfold cmpV cmpN
  rw [qap,qap]
  simp only [Int.ofNat_lt]
 rw [← hr]
 have := natOrder_eq S T a1 a2 (lim m).length cap1 cap2 (lim m) (lim n) w rfl hl.symm h (by rw [hl];exact k)
 rw [← hl]
 exact this
def ZeroFrom (xs : List Int) (k : Nat) : Prop := ∀ i (h : i < xs.length),k ≤ i → xs[i] = 0
theorem RU.take {S : Nat → Prop} {w : World} {a : Option Addr} {n c : Nat} {xs : List Int} (h : RU S w (.slice a n c) xs) {k c' : Nat} (hk : k ≤ xs.length) (hc : k ≤ c') : RU S w (.slice a k c') (xs.take k) := by
 rcases Nat.eq_zero_or_pos k with rfl | h0
 ·exact ⟨a,c',[],by simp,Nat.zero_le _,by simp,Dec.nil _ _ _,.inl (by simp)⟩
 ·obtain ⟨b, off, rfl, -, -⟩ := RU.at h (i := 0) (by omega)
  have := RSl.sub h (p := 0) (q := k) (by omega) hk (cap' := c') (by omega)
  show RSl S 1 (dInt .u32) w (.slice (some ⟨b,off,none⟩) k c') (xs.take k)
  simpa using this
def TrimGives (S : Nat → Prop) (xs : List Int) (w : World) (e : Ending) (w' : World) : Prop :=
 ∃ a,e = .returned (.slice a (lim (val xs).toNat).length (lim (val xs).toNat).length) ∧ RU S w (.slice a (lim (val xs).toNat).length (lim (val xs).toNat).length) (lim (val xs).toNat) ∧ w = w'
set_option maxHeartbeats 1000000 in
theorem natTrim (S : Nat → Prop) (v : Value) (xs : List Int) (w : World) (h : RU S w v xs) :
  Calls Tryz.prog 165 #[v] w (TrimGives S xs w) := by
 have hlx := RU.lim h
 obtain ⟨a,cap,rfl,h1,h2⟩ := RSl.shape h
 have hG : ∀ k,k ≤ xs.length → Hid (ZeroFrom xs k) → (∀ h : 0 < k,∀ hh : k - 1 < xs.length,xs[k - 1] ≠ 0) → TrimGives S xs w (.returned (.slice a k k)) w := fun k hk hz hn => by
  have e := trim_eq hlx hk hz.out (fun h0 => hn h0 (by omega))
  have e2 : (lim (val xs).toNat).length = k := by rw [← e,List.length_take];omega
  have hr := RU.take h hk (Nat.le_refl k)
  rw [e] at hr
  exact ⟨a,by rw [e2],by rw [e2];exact hr,rfl⟩
 have HG := Lib.hid hG
 clear hG
 go_enter Tryz.func165,Tryz.ntmps165
 go_wp2
 go_loopw [3] (fun i wr => ∃ k : Nat,i = .int .i64 k ∧ k ≤ xs.length ∧ Hid (ZeroFrom xs k) ∧ wr = w) (fun i _ => (intOf i).toNat)
 case atStart => exact ⟨xs.length,rfl,Nat.le_refl _,Lib.hid (fun i hi hk => by omega),rfl⟩
 case round =>
  obtain ⟨k,rfl,hk,hz,rfl⟩ := hrel
  cases k with
  | zero =>
   have hR := HG.out 0 (Nat.zero_le _) hz (fun h => by omega)
   have HR := Lib.hid hR
   clear hR
   go_wp2
   go_ret
   exact HR.out
  | succ j =>
   obtain ⟨b,off,rfl,-,-,hc,-,-⟩ := RU.at h (i := j) (by omega)
   have hji : (j : Int) < (xs.length : Int) := by omega
   have hj0 : (0 : Int) < (j : Int) + 1 := by omega
   by_cases hx : xs[j] = 0
   ·rw [hx] at hc
    have hz' : ZeroFrom xs j := fun i hi hji => by
     by_cases e : i = j
     ·subst e;exact hx
     ·exact hz.out i hi (by omega)
    have Hz := Lib.hid hz'
    clear hz' hx
    go_wp2
    exact ⟨⟨j,by go_num,by omega,Hz,trivial⟩,by simp [intOf]⟩
   ·have hxb : (xs[j] == 0) = false := beq_eq_false_iff_ne.2 hx
    have hR := HG.out (j + 1) hk hz (fun _ hh => by simpa using hx)
    have HR := Lib.hid hR
    clear hR hx
    go_wp2
    go_ret
    exact HR.out
set_option maxHeartbeats 1000000 in
theorem natEqual (S T : Nat → Prop) (u v : Value) (xs ys : List Int) (w : World) (hx : RU S w u xs) (hy : RU T w v ys) :
  Calls Tryz.prog 205 #[u,v] w fun e w' => e = .returned (.bool (eqL eqInt xs ys)) ∧ Below w.heap.size w w' := by
 obtain ⟨a1,cap1,rfl,hx1,hx2⟩ := RSl.shape hx
 obtain ⟨a2,cap2,rfl,hy1,hy2⟩ := RSl.shape hy
 by_cases hl : xs.length = ys.length
 case neg =>
  have hl' : ((xs.length : Int) != (ys.length : Int)) = true := by simpa using (by omega : ¬ (xs.length : Int) = ys.length)
  have hr := eqL_ne_len (p := eqInt) hl
  have Hr := Lib.hid hr;clear hr hl
  go_enter Tryz.func205,Tryz.ntmps205
  go_wp2
  go_ret
  exact ⟨qaa Hr.out.symm,Below.refl _ _⟩
 have hl' : ((xs.length : Int) != (ys.length : Int)) = false := by simpa using (by omega : (xs.length : Int) = ys.length)
 have Hl := Lib.hid hl;clear hl
 go_enter Tryz.func205,Tryz.ntmps205
 go_wp2
 go_loopw [13] (fun i wr => ∃ k : Nat,k ≤ xs.length ∧ i = .int .i64 k ∧ Hid (∀ j (h1 : j < xs.length) (h2 : j < ys.length),j < k → eqInt xs[j] ys[j] = true) ∧ Below w.heap.size w wr) (fun i _ => xs.length - (intOf i).toNat)
 case atStart => exact ⟨0,Nat.zero_le _,rfl,Lib.hid (fun _ _ _ h => by omega),Below.refl _ _⟩
 case round =>
  obtain ⟨k,hk,rfl,hg,hb⟩ := hrel
  by_cases hlt : k < xs.length
  ·have hlt2 : k < ys.length := by have := Hl.out; omega
   obtain ⟨b,off,rfl,-,-,hc,-,-⟩ := RU.at hx hlt
   obtain ⟨b2,off2,rfl,-,-,hc2,-,-⟩ := RU.at hy hlt2
   have e1 := fun p => qa7 (w := wr) ((Same.of_below (S := Any) hb).cell trivial hc) p
   have e2 := fun p => qa7 (w := wr) ((Same.of_below (S := Any) hb).cell trivial hc2) p
   clear hc hc2
   by_cases he : xs[k] = ys[k]
   ·have he' : (xs[k] != ys[k]) = false := by simpa using he
    have He := Lib.hid he;clear he
    go_wp2
    refine qa3 (by kernel_rfl) (by kernel_rfl) ?_
    repeat (go_big_quiet_step (fail))
    refine wpQuiet_nil ?_
    intro _ hw';obtain ⟨p,rfl⟩ := hw'
    go_wp2
    refine ⟨⟨k + 1,by omega,by go_num,Lib.hid (fun j h1 h2 hj => ?_),hb.trans ((qa4 wr p).mono hb.size)⟩,by simp [intOf];omega⟩
    by_cases e : j = k
    ·subst e;simp [eqInt,He.out]
    ·exact hg.out j h1 h2 (by omega)
   ·have he' : (xs[k] != ys[k]) = true := by simpa using he
    have hr := eqL_ne_at (p := eqInt) k hlt hlt2 (by simpa [eqInt] using he)
    have Hr := Lib.hid hr;clear he hr
    go_wp2
    refine qa3 (by kernel_rfl) (by kernel_rfl) ?_
    repeat (go_big_quiet_step (fail))
    refine wpQuiet_nil ?_
    intro _ hw';obtain ⟨p,rfl⟩ := hw'
    go_wp2
    go_ret
    exact ⟨qaa Hr.out.symm,hb.trans ((qa4 wr p).mono hb.size)⟩
  ·go_wp2
   go_ret
   exact ⟨qaa (eqL_of Hl.out (fun j h1 h2 => hg.out j h1 h2 (by omega))).symm,hb⟩
theorem Tryz.infoU32 : (Tryz.prog.info? 177).map (fun i => (i.zero,i.size,i.bytes)) = some (some (.int .u32 0),1,4) := by kernel_rfl
def GivesU (xs : List Int) (w : World) (e : Ending) (w' : World) : Prop := ∃ a c,e = .returned (.slice a xs.length c) ∧ RU Any w' (.slice a xs.length c) xs ∧ Below w.heap.size w w'
set_option maxHeartbeats 400000 in
theorem natClone (S : Nat → Prop) (v : Value) (xs : List Int) (w : World) (h : RU S w v xs) (hl : xs.length ≤ 1000000000) :
  Calls Tryz.prog 203 #[v] w (GivesU xs w) := by
 obtain ⟨a,cap,rfl,h1,h2⟩ := RSl.shape h
 have hnil := fun (w : World) (a : Option Addr) (n c : Nat) => Lib.run_eql_slice_nil (P := Tryz.prog) w 54 177 a n c 0 0 Tryz.underlying54
 cases a with
 | none =>
  obtain rfl := nil_of_none h
  go_enter Tryz.func203,Tryz.ntmps203
  go_wp2
  go_ret
  exact ⟨_,_,rfl,RSl.nil,Below.refl _ _⟩
 | some ad =>
  have hb0 : Below w.heap.size w (w.alloc (.cells #[] 177)) := (Below.refl _ _).alloc (Nat.le_refl _) _
  have hu := RSl.same (dInt.stable S .u32) (.of_below hb0) h
  go_enter Tryz.func203,Tryz.ntmps203
  go_wp2_with (at_builtin;refine wpList_app _ Tryz.infoU32 rfl rfl Tryz.underlying54 ⟨rfl,by omega,by omega⟩ (dInt.one _) (dInt.stable (fun _ => False) .u32) w.heap.size (Own.made _ _ _ _ w #[] 0 (Nat.le_refl _) (by simp [maxLen]) rfl) rfl hu rfl (by simp;omega) (by simp) ?_;intro a' c' w' hg hat ho)
  go_ret
  have ho' := ho (fun _ _ h => h.elim)
  have hr : RSl Any 1 (dInt .u32) w' (.slice a' ([] ++ xs).length c') ([] ++ xs) := RSl.mono (fun _ _ _ h => h) (fun _ _ => trivial) (Own.rsl ho' (by simp;omega))
  exact ⟨a',c',by simp,(show RSl Any 1 (dInt .u32) w' (.slice a' xs.length c') xs by simpa using hr),hb0.grown hg (by simp) (by simp [Value.ownBlock])⟩
end

section
open Go Go.RowKit Go.Shelf Limb

theorem qa5 {x : Int} (h0 : 0 ≤ x) (h1 : x < 18446744073709551616) : IntKind.u64.wrap x = x := by
 simp [IntKind.wrap,IntKind.bits,IntKind.signed]
 omega
set_option maxHeartbeats 400000 in
theorem bitsAdd (x y c : Int) (w : World) (hx : 0 ≤ x ∧ x < 4294967296) (hy : 0 ≤ y ∧ y < 4294967296) (hc : 0 ≤ c ∧ c ≤ 1) :
  Calls Tryz.prog 252 #[.int .u32 x,.int .u32 y,.int .u32 c] w fun e w' => e = .returned (.tuple #[.int .u32 ((x + y + c) % 4294967296),.int .u32 ((x + y + c) / 4294967296)]) ∧ w = w' := by
 obtain ⟨hx0,hx1⟩ := hx
 obtain ⟨hy0,hy1⟩ := hy
 obtain ⟨hc0,hc1⟩ := hc
 have k1 := qa5 hx0 (by omega)
 have k2 := qa5 hy0 (by omega)
 have k3 := qa5 hc0 (by omega)
 have k4 := qa5 (x := x + y) (by omega) (by omega)
 have k5 := qa5 (x := x + y + c) (by omega) (by omega)
 go_enter Tryz.func252,Tryz.ntmps252
 go_wp2
 go_ret2
 exact ⟨rfl,rfl⟩
theorem xor_ones (a : Nat) (ha : a < 4294967296) : 4294967295 ^^^ a = 4294967295 - a := by
 have h : (BitVec.allOnes 32 ^^^ BitVec.ofNat 32 a).toNat = 4294967295 ^^^ a := by
  rw [BitVec.toNat_xor,BitVec.toNat_allOnes,BitVec.toNat_ofNat,Nat.mod_eq_of_lt ha]
 rw [← h,BitVec.allOnes_xor,BitVec.toNat_not,BitVec.toNat_ofNat,Nat.mod_eq_of_lt ha]
def brw (x y c : Int) : Int := if x < y + c then 1 else 0
theorem borrow_bits (x y c : Int) (hx0 : 0 ≤ x) (hx1 : x < 4294967296) (hy0 : 0 ≤ y) (hy1 : y < 4294967296) (hc0 : 0 ≤ c) (hc1 : c ≤ 1) :
  bits .or .u32 (bits .and .u32 (bits .xor .u32 IntKind.u32.max x) y) (bits .and .u32 (bits .xor .u32 IntKind.u32.max (bits .xor .u32 x y)) ((x - y - c) % 4294967296)) / 2147483648 = brw x y c := by
 obtain ⟨a,rfl⟩ : ∃ a : Nat,x = a := ⟨x.toNat,by omega⟩
 obtain ⟨b,rfl⟩ : ∃ b : Nat,y = b := ⟨y.toNat,by omega⟩
 obtain ⟨e,rfl⟩ : ∃ e : Nat,c = e := ⟨c.toNat,by omega⟩
 have hm : IntKind.u32.max = ((4294967295 : Nat) : Int) := by decide
 have hd : ((a : Int) - (b : Int) - (e : Int)) % 4294967296 = (((a + 4294967296 - b - e) % 4294967296 : Nat) : Int) := by omega
 have hab : a ^^^ b < 4294967296 := Nat.xor_lt_two_pow (n := 32) (by omega) (by omega)
 have hdl : (a + 4294967296 - b - e) % 4294967296 < 4294967296 := Nat.mod_lt _ (by omega)
 rw [hm,hd,u32_xor_nat a b (by omega) (by omega),u32_xor_nat 4294967295 a (by omega) (by omega),u32_xor_nat 4294967295 (a ^^^ b) (by omega) hab,xor_ones a (by omega),xor_ones _ hab]
 rw [u32_and_nat (4294967295 - a) b (by omega) (by omega),u32_and_nat (4294967295 - (a ^^^ b)) _ (by omega) hdl]
 rw [u32_or_nat _ _ (Nat.and_lt_two_pow _ (n := 32) (by omega)) (Nat.and_lt_two_pow _ (n := 32) hdl)]
 have := borrow_eq a b e ((a + 4294967296 - b - e) % 4294967296) (by omega) (by omega) (by omega) rfl
 unfold brw
 have h2 : (((4294967295 - a &&& b ||| 4294967295 - (a ^^^ b) &&& (a + 4294967296 - b - e) % 4294967296 : Nat) : Int) / 2147483648) = (((4294967295 - a &&& b ||| 4294967295 - (a ^^^ b) &&& (a + 4294967296 - b - e) % 4294967296) / 2147483648 : Nat) : Int) := by omega
 rw [h2,this]
 by_cases hlt : a < b + e
 ·rw [if_pos hlt,if_pos (by omega)];rfl
 ·rw [if_neg hlt,if_neg (by omega)];rfl
theorem or64 (x y : Int) (hx0 : 0 ≤ x) (hx1 : x < 4294967296) (hy0 : 0 ≤ y) (hy1 : y < 4294967296) : bits .or .u64 (x * 4294967296) y = x * 4294967296 + y := by
 obtain ⟨a,rfl⟩ : ∃ a : Nat,x = a := ⟨x.toNat,by omega⟩
 obtain ⟨b,rfl⟩ : ∃ b : Nat,y = b := ⟨y.toNat,by omega⟩
 have h := u64_or_nat (a * 4294967296) b (by omega) (by omega)
 have e : a * 4294967296 ||| b = a * 4294967296 + b := by
  have := Nat.shiftLeft_add_eq_or_of_lt (i := 32) (b := b) (by omega) a
  rw [Nat.shiftLeft_eq,show (2 : Nat) ^ 32 = 4294967296 from rfl] at this
  exact this.symm
 rw [e] at h
 rw [show ((a : Int) * 4294967296) = ((a * 4294967296 : Nat) : Int) by omega,h]
 omega
set_option maxHeartbeats 400000 in
theorem bitsSub (x y c : Int) (w : World) (hx : 0 ≤ x ∧ x < 4294967296) (hy : 0 ≤ y ∧ y < 4294967296) (hc : 0 ≤ c ∧ c ≤ 1) :
  Calls Tryz.prog 251 #[.int .u32 x,.int .u32 y,.int .u32 c] w fun e w' => e = .returned (.tuple #[.int .u32 ((x - y - c) % 4294967296),.int .u32 (brw x y c)]) ∧ w = w' := by
 obtain ⟨hx0,hx1⟩ := hx
 obtain ⟨hy0,hy1⟩ := hy
 obtain ⟨hc0,hc1⟩ := hc
 have hB := borrow_bits x y c hx0 hx1 hy0 hy1 hc0 hc1
 have HB := Lib.hid hB
 clear hB
 go_enter Tryz.func251,Tryz.ntmps251
 go_wp2
 go_ret2
 exact ⟨congrArg (fun z => Ending.returned (.tuple #[.int .u32 ((x - y - c) % 4294967296),.int .u32 z])) HB.out,rfl⟩
set_option maxHeartbeats 400000 in
theorem bitsDiv (x y d : Int) (w : World) (hx : 0 ≤ x ∧ x < 4294967296) (hy : 0 ≤ y ∧ y < 4294967296) (hd : 0 < d ∧ d < 4294967296) (hxd : x < d) :
  Calls Tryz.prog 243 #[.int .u32 x,.int .u32 y,.int .u32 d] w fun e w' => e = .returned (.tuple #[.int .u32 ((x * 4294967296 + y) / d),.int .u32 ((x * 4294967296 + y) % d)]) ∧ Below w.heap.size w w' := by
 obtain ⟨hx0,hx1⟩ := hx
 obtain ⟨hy0,hy1⟩ := hy
 obtain ⟨hd0,hd1⟩ := hd
 have hd2 : (d != 0) = true := bne_iff_ne.2 (by omega)
 have hd3 : ¬ d ≤ x := by omega
 have k1 := qa5 hx0 (by omega)
 have k2 := qa5 hy0 (by omega)
 have k3 := qa5 (Int.le_of_lt hd0) (by omega)
 have k4 := qa5 (x := x * 4294967296) (by omega) (by omega)
 have k5 := or64 x y hx0 hx1 hy0 hy1
 obtain ⟨z,hz⟩ : ∃ z,x * 4294967296 + y = z := ⟨_,rfl⟩
 rw [hz] at k5 ⊢
 have hz0 : 0 ≤ z := by omega
 have hdn : ¬ d = 0 := by omega
 have hzd : z < d * 4294967296 := by omega
 have hq0 : 0 ≤ z / d := Int.ediv_nonneg hz0 (by omega)
 have hq1 : z / d < 4294967296 := Int.ediv_lt_of_lt_mul hd0 (by rw [Int.mul_comm];exact hzd)
 have hr0 := Int.emod_nonneg z (b := d) (by omega)
 have hr1 := Int.emod_lt_of_pos z hd0
 have hq2 : z.tdiv d = z / d := Int.tdiv_eq_ediv_of_nonneg hz0
 have hq3 := qa5 hq0 (by omega)
 have hq4 : z / d % 4294967296 = z / d := Int.emod_eq_of_lt hq0 hq1
 have hr4 : z % d % 4294967296 = z % d := Int.emod_eq_of_lt hr0 (by omega)
 have Hz := Lib.hid hz
 clear hz hzd
 go_enter Tryz.func243,Tryz.ntmps243
 go_wp2
 refine qa3 (by kernel_rfl) (by kernel_rfl) ?_
 repeat (go_big_quiet_step (fail))
 refine wpQuiet_nil ?_
 intro _ hw';obtain ⟨p,rfl⟩ := hw'
 go_wp2
 go_ret2
 exact ⟨rfl,qa4 w p⟩
end

section
open Go Go.RowKit Go.Shelf Limb

theorem Arr.madeN {k : IntKind} (w : World) (n : Nat) (e : TypeId) : Arr k (w.alloc (.cells (madeCells #[.int k 0] n) e)) w.heap.size e (List.replicate n 0) := by
 unfold Arr
 rw [qa8]
 congr 2
 apply Array.ext'
 rw [toList_madeCells_one]
 simp
def NumAt (w : World) (v : Value) (n : Nat) : Prop := ∃ a c,v = .slice a (lim n).length c ∧ RU Any w (.slice a (lim n).length c) (lim n)
theorem NumAt.same {w w' : World} {v : Value} {n : Nat} (h : NumAt w v n) (hb : Below w.heap.size w w') : NumAt w' v n := by
 obtain ⟨a,c,rfl,hr⟩ := h
 exact ⟨a,c,rfl,hr.below hb⟩
theorem NumAt.ru {w : World} {v : Value} {n : Nat} (h : NumAt w v n) : RU Any w v (lim n) := by
 obtain ⟨a,c,rfl,hr⟩ := h
 exact hr
theorem NumAt.of {S : Nat → Prop} {w : World} {v : Value} {n : Nat} (h : RU S w v (lim n)) : NumAt w v n := by
 obtain ⟨a,c,rfl,-,-⟩ := RSl.shape h
 exact ⟨a,c,rfl,RSl.mono (fun _ _ _ h => h) (fun _ _ => trivial) h⟩
theorem NumAt.shape {w : World} {v : Value} {n : Nat} (h : NumAt w v n) : ∃ a c,v = .slice a (lim n).length c := by
 obtain ⟨a,c,rfl,hr⟩ := h
 exact ⟨a,c,rfl⟩
theorem trimN {S : Nat → Prop} {v : Value} {xs : List Int} {w : World} {n : Nat} (h : RU S w v xs) (hn : val xs = n) :
  Calls Tryz.prog 165 #[v] w fun e w' => ∃ a c,e = .returned (.slice a (lim n).length c) ∧ NumAt w (.slice a (lim n).length c) n ∧ w = w' :=
 (natTrim S v xs w h).mono fun e w' ⟨a, he, hr, hw⟩ => by
  rw [hn,Int.toNat_natCast] at he hr
  exact ⟨a,_,he,NumAt.of hr,hw⟩
theorem trimF {S : Nat → Prop} {v : Value} {xs : List Int} {w : World} {n : Nat} (h : RU S w v xs) (hn : val xs = n) :
  Calls Tryz.prog 165 #[v] w fun e w' => ∃ a c,e = .returned (.slice a (lim n).length c) ∧ RU S w (.slice a (lim n).length c) (lim n) ∧ w = w' :=
 (natTrim S v xs w h).mono fun e w' ⟨a, he, hr, hw⟩ => by
  rw [hn,Int.toNat_natCast] at he hr
  exact ⟨a,_,he,hr,hw⟩
set_option maxHeartbeats 1000000 in
theorem natSmallF (v : Value) (n d : Nat) (w : World) (h : NumAt w v n) (hl : (lim n).length ≤ 1000000) (hd : 0 < d ∧ d < 4294967296) :
  Calls Tryz.prog 234 #[v,.int .u32 d] w fun e w' => ∃ a c,e = .returned (.tuple #[.slice a (lim (n / d)).length c,.int .u32 (n % d : Nat)]) ∧ RU (From w.heap.size) w' (.slice a (lim (n / d)).length c) (lim (n / d)) ∧ Below w.heap.size w w' := by
 obtain ⟨a,cap,rfl,hr⟩ := h
 obtain ⟨xs,hxs⟩ : ∃ xs,lim n = xs := ⟨_,rfl⟩
 have hv : val xs = (n : Int) := by rw [← hxs,qap]
 rw [hxs] at hr hl ⊢
 obtain ⟨hd0,hd1⟩ := hd
 have hlx := RU.lim hr
 obtain ⟨L,hL⟩ : ∃ L,xs.length = L := ⟨_,rfl⟩
 rw [hL] at hr hl ⊢
 have HL := Lib.hid hL;have Hv := Lib.hid hv;have Hlx := Lib.hid hlx
 have hmk := run_make_row' (P := Tryz.prog) 54 177 (.int .u32 0) 4 Tryz.underlying54 Tryz.infoU32 rfl .i64 .i64 L (by omega) (by omega)
 have hA := Arr.madeN (k := .u32) w L 177
 have hb0 := qa1 w (.cells (madeCells #[.int .u32 0] L) 177)
 clear hL hv hlx hxs
 go_enter Tryz.func234,Tryz.ntmps234
 go_wp2
 go_loopw [5,6] (fun rv i wr => ∃ (k : Nat) (r : Int) (qs : List Int),((k = 0 ∧ i = .int .i64 (-1)) ∨ ∃ j : Nat,k = j + 1 ∧ i = .int .i64 j) ∧ k ≤ L ∧ rv = .int .u32 r ∧ 0 ≤ r ∧ r < d ∧ Arr .u32 wr w.heap.size 177 qs ∧ Hid (Lim qs ∧ qs.length = L ∧ val (xs.drop k) = val (qs.drop k) * d + r) ∧ Below w.heap.size w wr) (fun _ i _ => (intOf i + 1).toNat)
 case atStart =>
  refine ⟨L,0,_,?_,Nat.le_refl _,rfl,by omega,by omega,hA,Lib.hid ⟨Lim.zeros L,by simp,?_⟩,hb0⟩
  ·by_cases h0 : L = 0
   ·subst h0;exact .inl ⟨rfl,rfl⟩
   ·exact .inr ⟨L - 1,by omega,by congr 1;omega⟩
  ·have := HL.out
   rw [List.drop_of_length_le (by omega),List.drop_of_length_le (by simp)]
   simp [val]
 case round =>
  obtain ⟨k,r,qs,hi,hk,rfl,hr0,hr1,hA,hq,hb⟩ := hrel
  obtain ⟨hq1,hq2,hq3⟩ := hq.out
  rcases hi with ⟨rfl,rfl⟩ | ⟨j,rfl,rfl⟩
  ·have hvq := qaf hq1
   have e1 : (n : Int) = val qs * d + r := by rw [← Hv.out];simpa using hq3
   obtain ⟨Q,hQ⟩ : ∃ Q : Nat,val qs = Q := ⟨(val qs).toNat,by omega⟩
   obtain ⟨R,rfl⟩ : ∃ R : Nat,r = R := ⟨r.toNat,by omega⟩
   have e2 : n = Q * d + R := by
    have : ((Q * d + R : Nat) : Int) = (Q : Int) * d + R := by rw [Int.natCast_add,Int.natCast_mul]
    rw [hQ] at e1;omega
   obtain ⟨e3,e4⟩ := div_of e2 (by omega)
   have hT := trimF (hA.all (S := From w.heap.size) (Nat.le_refl _) (Lim.wf hq1) (by omega) hq2.symm (Nat.le_refl _)) (by rw [hQ,e3] : val qs = ((n / d : Nat) : Int))
   have HT := Lib.hid hT;have He4 := Lib.hid e4
   clear hT e1 e2 e3 e4 hQ hq3 hq2 hq1 hvq
   go_wp2_with (go_at_call 165;refine HT.out.mono ?_;rintro e w1 ⟨a1,c1,rfl,hN,rfl⟩;have HN := Lib.hid hN;clear hN)
   go_ret2
   exact ⟨a1,c1,congrArg (fun z : Nat => Ending.returned (.tuple #[.slice a1 (lim (n / d)).length c1,.int .u32 z])) He4.out,HN.out,hb⟩
  ·have hjx : j < xs.length := by have := HL.out; omega
   obtain ⟨b,off,rfl,-,-,hc,hx0,hx1⟩ := RU.at (hr.below hb) hjx
   have hD := fun W => bitsDiv r xs[j] d W ⟨hr0,by omega⟩ ⟨hx0,hx1⟩ ⟨by omega,by omega⟩ hr1
   have hji : (j : Int) < (L : Int) := by omega
   have hcell : ∀ W,Below wr.heap.size wr W → W.cell? ⟨w.heap.size,j,none⟩ = some (.int .u32 qs[j]) ∧ W.frozen? ⟨w.heap.size,j,none⟩ = false := fun W hW => ⟨(hA.below hW).cell (by omega),(hA.below hW).frozen j⟩
   obtain ⟨q,hqe⟩ : ∃ q,(r * 4294967296 + xs[j]) / d = q := ⟨_,rfl⟩
   obtain ⟨r',hre⟩ : ∃ r',(r * 4294967296 + xs[j]) % d = r' := ⟨_,rfl⟩
   have hdiv := Int.mul_ediv_add_emod (r * 4294967296 + xs[j]) d
   have hrr0 : 0 ≤ r' := by rw [← hre];exact Int.emod_nonneg _ (by omega)
   have hrr1 : r' < d := by rw [← hre];exact Int.emod_lt_of_pos _ (by omega)
   have hqq0 : 0 ≤ q := by rw [← hqe];exact Int.ediv_nonneg (by omega) (by omega)
   have hqq1 : q < 4294967296 := by
    rw [← hqe]
    refine Int.ediv_lt_of_lt_mul (by omega) ?_
    have := mul_le (c := 4294967296) (by omega) (show r + 1 ≤ d by omega)
    rw [Int.add_mul] at this
    omega
   rw [hqe,hre] at hdiv hD
   have hfin : Lim (qs.set j q) ∧ (qs.set j q).length = L ∧ val (xs.drop j) = val ((qs.set j q).drop j) * d + r' := by
    refine ⟨hq1.set j ⟨hqq0,hqq1⟩,by rw [List.length_set];exact hq2,?_⟩
    rw [qas hjx,qas (xs := qs.set j q) (i := j) (by rw [List.length_set];omega),List.getElem_set_self,List.drop_set_of_lt (by omega),hq3]
    have e : (q + 4294967296 * val (qs.drop (j + 1))) * (d : Int) + r' = (d * q + r') + 4294967296 * (val (qs.drop (j + 1)) * d) := by grind
    rw [e,hdiv]
    grind
   have hfa : ∀ W,Below wr.heap.size wr W → Arr .u32 (W.setCell ⟨w.heap.size,j,none⟩ (.int .u32 q)) w.heap.size 177 (qs.set j q) := fun W hW => (hA.below hW).set j q
   have Hfin := Lib.hid hfin;have Hfa := Lib.hid hfa;have HD := Lib.hid hD;have HC := Lib.hid hcell
   clear hfin hfa hD hcell hqe hre hdiv hq3 hA
   go_wp2_with (go_at_call 243;refine (HD.out _).mono ?_;rintro e w1 ⟨rfl,hb1⟩;obtain ⟨q1,q2⟩ := HC.out w1 hb1)
   exact ⟨⟨j,r',_,(by
    cases j with
    | zero => exact .inl ⟨rfl,by go_num⟩
    | succ j => exact .inr ⟨j,rfl,by go_num⟩),by omega,rfl,hrr0,hrr1,Hfa.out w1 hb1,Hfin,((hb.trans (hb1.mono hb.size)).setCell (p := ⟨w.heap.size,j,none⟩) (Nat.le_refl _) _)⟩,by simp [intOf]⟩
end

section
open Go Go.RowKit Go.Shelf Limb

theorem or32 (x c : Nat) (hs : x ||| c = x + c) (h : x + c < 4294967296) : bits .or .u32 (x : Int) (c : Int) = ((x + c : Nat) : Int) := by
 rw [u32_or_nat x c (by omega) (by omega),hs]
theorem addr_add (b off k : Nat) : (⟨b,off,none⟩ : Addr).add k = ⟨b,off + k,none⟩ := by unfold Addr.add;split <;> simp_all
theorem Tryz.sizeU32 : (Tryz.prog.info? 177).map (·.size) = some 1 := by kernel_rfl
theorem Arr.get {k : IntKind} {w : World} {g : Nat} {e : TypeId} {xs : List Int} (h : Arr k w g e xs) {i : Nat} {x : Int} (hi : xs[i]? = some x) : w.cell? ⟨g,i,none⟩ = some (.int k x) := by
 obtain ⟨hl,rfl⟩ := List.getElem?_eq_some_iff.1 hi
 exact h.cell hl
theorem mix_get {ys zs : List Int} {j i : Nat} (hi : i ≤ j) (hl : j < ys.length) : (ys.take (j + 1) ++ zs.drop (j + 1))[i]? = some (ys.getD i 0) := by
 rw [List.getElem?_append_left (by rw [List.length_take];omega),List.getElem?_take_of_lt (by omega),List.getD,List.getElem?_eq_getElem (by omega)]
 rfl
theorem mix_set {ys zs : List Int} {j : Nat} (hl : j < ys.length) (hz : j < zs.length) : (ys.take (j + 1) ++ zs.drop (j + 1)).set j zs[j] = ys.take j ++ zs.drop j := by
 rw [List.drop_eq_getElem_cons hz,List.take_succ_eq_append_getElem hl,List.append_assoc,List.set_append_right _ _ (by rw [List.length_take];omega)]
 have : j - (ys.take j).length = 0 := by rw [List.length_take];omega
 rw [this]
 rfl
theorem shl_limb (x y s : Nat) (hs : s < 32) (hx : x < 4294967296) :
  bits .or .u32 ((y : Int) * 2 ^ s % 4294967296) (IntKind.u64.wrap ((x : Int) * 2 ^ s) / 4294967296 % 4294967296) = ((y * 2 ^ s % 4294967296 + x * 2 ^ s / 4294967296 : Nat) : Int) := by
 have hp : 2 ^ s ≤ 2 ^ 31 := Nat.pow_le_pow_right (by omega) (by omega)
 have hp' : (2 : Nat) ^ 31 = 2147483648 := rfl
 have h1 : x * 2 ^ s ≤ 4294967296 * 2147483648 := Nat.mul_le_mul (by omega) (by omega)
 have e1 : ((x : Int) * 2 ^ s) = ((x * 2 ^ s : Nat) : Int) := by simp
 have e2 : ((y : Int) * 2 ^ s % 4294967296) = ((y * 2 ^ s % 4294967296 : Nat) : Int) := by simp
 have hc := carry_lt x s hx
 rw [e1,e2,qa5 (by omega) (by omega)]
 have e3 : (((x * 2 ^ s : Nat) : Int) / 4294967296) = ((x * 2 ^ s / 4294967296 : Nat) : Int) := by simp
 rw [e3,Int.emod_eq_of_lt (by omega) (by omega)]
 obtain ⟨h2,h3⟩ := shl_or y (x * 2 ^ s / 4294967296) s hs hc
 exact or32 _ _ h2 h3
def ArrAt (w0 : World) (w : World) (v : Value) (xs : List Int) : Prop := ∃ g,v = .slice (some ⟨g,0,none⟩) xs.length xs.length ∧ w0.heap.size ≤ g ∧ Arr .u32 w g 177 xs
set_option maxHeartbeats 2000000 in
set_option maxRecDepth 100000 in
theorem natShifted (v : Value) (n s : Nat) (w : World) (h : NumAt w v n) (hl : (lim n).length ≤ 1000000) (hs : s < 32) :
  Calls Tryz.prog 245 #[v,.int .i64 s] w fun e w' => ∃ u,e = .returned u ∧ ArrAt w w' u (shl s 0 (lim n)) ∧ Below w.heap.size w w' := by
 obtain ⟨a,cap,rfl,hr⟩ := h
 obtain ⟨xs,hxs⟩ : ∃ xs,lim n = xs := ⟨_,rfl⟩
 rw [hxs] at hr hl ⊢
 have hlx := RU.lim hr
 obtain ⟨zs,hzs⟩ : ∃ zs,shl s 0 xs = zs := ⟨_,rfl⟩
 obtain ⟨hz1,hz2,-⟩ := shl_spec s hs hlx 0 (Nat.two_pow_pos s)
 have hzg : ∀ i (hi : i < zs.length),zs[i] = (((xs.getD i 0).toNat * 2 ^ s % 4294967296 + (if i = 0 then 0 else (xs.getD (i - 1) 0).toNat * 2 ^ s / 4294967296) : Nat) : Int) := fun i hi => by subst hzs;exact shl_get s 0 i hi
 rw [hzs] at hz1 hz2 ⊢
 obtain ⟨L,hL⟩ : ∃ L,xs.length = L := ⟨_,rfl⟩
 rw [hL] at hr hl hz2 ⊢
 obtain ⟨M,hM⟩ : ∃ M,M = L + 1 := ⟨_,rfl⟩
 have hw : (L : Int) + 1 = (M : Int) := by omega
 rw [← hM] at hz2
 have HM := Lib.hid hM
 have hMl : M ≤ 1000001 := by omega
 have hLM : L < M := by omega
 have HL := Lib.hid hL;have Hlx := Lib.hid hlx;have Hz1 := Lib.hid hz1;have Hz2 := Lib.hid hz2;have Hzg := Lib.hid hzg
 have hmk := run_make_row' (P := Tryz.prog) 54 177 (.int .u32 0) 4 Tryz.underlying54 Tryz.infoU32 rfl .i64 .i64 M (by omega) (by omega)
 have hA := Arr.madeN (k := .u32) w M 177
 have hb0 := qa1 w (.cells (madeCells #[.int .u32 0] M) 177)
 have hsrc : ∀ j u,(xs.map (Value.int .u32))[j]? = some u → ∃ ad,a = some ad ∧ (w.alloc (.cells (madeCells #[.int .u32 0] M) 177)).cell? (ad.add j) = some u := fun j u hj => by
  rw [List.getElem?_map] at hj
  obtain ⟨x,hx,rfl⟩ := Option.map_eq_some_iff.1 hj
  obtain ⟨hjl,rfl⟩ := List.getElem?_eq_some_iff.1 hx
  obtain ⟨b,off,rfl,-,-,hc,-,-⟩ := RU.at hr hjl
  exact ⟨_,rfl,by rw [addr_add];exact cell_later hb0 hc⟩
 have Hsrc := Lib.hid hsrc;have HA := Lib.hid hA
 clear hM hL hlx hzs hz1 hz2 hzg hsrc hA
 go_enter Tryz.func245,Tryz.ntmps245
 obtain ⟨X,hX⟩ : ∃ X,X = xs.map (Value.int .u32) := ⟨_,rfl⟩
 obtain ⟨C,hC⟩ : ∃ C,C = (List.replicate M 0).map (Value.int .u32) := ⟨_,rfl⟩
 have hXl : X.length = L := by rw [hX,List.length_map];exact HL.out
 have hCl : C.length = M := by rw [hC];simp
 have hX1 : ∀ v ∈ X,v.oneCell' = true := fun v hv => by rw [hX] at hv;obtain ⟨x,-,rfl⟩ := List.mem_map.1 hv;rfl
 have hgC : (w.alloc (.cells (madeCells #[.int .u32 0] M) 177)).heap[w.heap.size]? = some (.cells C.toArray 177 (0,0)) := by rw [hC];exact HA.out
 have hpos : 0 < X.length → ∃ ad,a = some ad ∧ ∀ j v,X[j]? = some v → (w.alloc (.cells (madeCells #[.int .u32 0] M) 177)).cell? (ad.add j) = some v := fun h0 => by
  have h00 : (xs.map (Value.int .u32))[0]? = some ((xs.map (Value.int .u32))[0]'(by rw [← hX];exact h0)) := List.getElem?_eq_getElem _
  obtain ⟨ad,rfl,-⟩ := Hsrc.out 0 _ h00
  refine ⟨ad,rfl,fun j v hj => ?_⟩
  rw [hX] at hj
  obtain ⟨ad',e,hc⟩ := Hsrc.out j v hj
  cases e
  exact hc
 have hfin : ∀ W,W.heap[w.heap.size]? = some (.cells (splice C 0 X).toArray 177 (0,0)) → Arr .u32 W w.heap.size 177 (xs ++ [0]) := fun W hW => by
  unfold Arr
  rw [hW]
  congr 3
  have hd : C.drop L = [Value.int .u32 0] := by
   rw [hC,← List.map_drop,List.drop_replicate,show M - L = 1 by have := HM.out;omega]
   rfl
  rw [splice,hXl,Nat.zero_add,hd,hX]
  simp
 have HXl := Lib.hid hXl;have HCl := Lib.hid hCl;have HX1 := Lib.hid hX1;have HgC := Lib.hid hgC;have Hpos := Lib.hid hpos;have Hfin := Lib.hid hfin
 clear hXl hCl hX1 hgC hpos hfin hX hC
 go_wp2_with (refine wpList_copy_splice rfl _ _ 54 54 rfl 177 Tryz.underlying54 Tryz.sizeU32 _ _ _ _ _ _ rfl rfl w.heap.size 0 C 177 HgC.out X (by rw [HXl.out];exact (Nat.min_eq_left (by omega)).symm) (fun h0 => ⟨rfl,Hpos.out h0⟩) (by rw [HXl.out,HCl.out];omega) HX1.out w.heap.size w hb0 (Nat.le_refl _) ?_;intro w1 hg1 hb1;have hA1 := Hfin.out w1 hg1.out;clear hg1)
 go_loopw [6] (fun i wr => ∃ k : Nat,((k = 0 ∧ i = .int .i64 (-1)) ∨ ∃ j : Nat,k = j + 1 ∧ i = .int .i64 j) ∧ k ≤ M ∧ Hid (Arr .u32 wr w.heap.size 177 ((xs ++ [0]).take k ++ zs.drop k)) ∧ Below w.heap.size w wr) (fun i _ => (intOf i + 1).toNat)
 case atStart =>
  refine ⟨M,.inr ⟨L,HM.out,rfl⟩,Nat.le_refl _,Lib.hid ?_,hb1⟩
  rw [List.take_of_length_le (by have := HL.out;have := HM.out;simp;omega),List.drop_of_length_le (by have := Hz2.out;omega),List.append_nil]
  exact hA1
 case round =>
  obtain ⟨k,hi,hk,hA,hb⟩ := hrel
  rcases hi with ⟨rfl,rfl⟩ | ⟨j,rfl,rfl⟩
  ·have hA0 : Arr .u32 wr w.heap.size 177 zs := by simpa using hA.out
   have HA0 := Lib.hid hA0
   clear hA0 hA hA1
   go_wp2
   go_ret
   exact ⟨_,rfl,⟨w.heap.size,congrArg (fun n => Value.slice (some ⟨w.heap.size,0,none⟩) n n) Hz2.out.symm,Nat.le_refl _,HA0.out⟩,hb⟩
  ·have hlen : (xs ++ [0]).length = M := by have := HL.out; have := HM.out; simp; omega
   obtain ⟨y,hy⟩ : ∃ y : Nat,xs.getD j 0 = y := ⟨(xs.getD j 0).toNat,by have := Hlx.out.getD j;omega⟩
   have hy1 : y < 4294967296 := by have := Hlx.out.getD j;omega
   have hyd : (xs ++ [0]).getD j (0 : Int) = (y : Int) := by
    rw [← hy]
    by_cases hj : j < xs.length
    ·rw [List.getD,List.getD,List.getElem?_append_left hj]
    ·rw [List.getD, List.getD, List.getElem?_append_right (by omega), List.getElem?_eq_none (by omega : xs.length ≤ j)]
     have : j - xs.length = 0 := by have := HL.out;have := HM.out;omega
     rw [this];rfl
   have hc : wr.cell? ⟨w.heap.size,j,none⟩ = some (.int .u32 y) := by
    rw [← hyd];exact hA.out.get (mix_get (Nat.le_refl _) (by omega))
   have hf : wr.frozen? ⟨w.heap.size,j,none⟩ = false := hA.out.frozen j
   have hjM : (j : Int) < (M : Int) := by omega
   have hzj : j < zs.length := by have := Hz2.out;omega
   have hms := mix_set (ys := xs ++ [0]) (zs := zs) (j := j) (by omega) hzj
   have hzv := Hzg.out j hzj
   rw [hy,Int.toNat_natCast] at hzv
   have Hms := Lib.hid hms;have Hzv := Lib.hid hzv;have HA := Lib.hid hA1
   clear hms hzv hy hyd hlen hA1
   cases j with
   | zero =>
    go_wp2
    refine ⟨⟨0,.inl ⟨rfl,rfl⟩,Nat.zero_le _,Lib.hid ?_,hb.setCell (p := ⟨w.heap.size,0,none⟩) (Nat.le_refl _) _⟩,by simp [intOf]⟩
    have e : ((y : Int) * (2 : Int) ^ s % (4294967296 : Int) : Int) = zs[0] := by
     rw [Hzv.out,if_pos rfl,Nat.add_zero]
     simp
    rw [e,← Hms.out]
    exact hA.out.set 0 _
   | succ i =>
    obtain ⟨x,hx⟩ : ∃ x : Nat,xs.getD i 0 = (x : Int) := ⟨(xs.getD i 0).toNat,by have := Hlx.out.getD i;omega⟩
    have hx1 : x < 4294967296 := by have := Hlx.out.getD i;omega
    have hxd : (xs ++ [0]).getD i (0 : Int) = (x : Int) := by
     rw [← hx,List.getD,List.getD,List.getElem?_append_left (by have := HL.out;have := HM.out;omega)]
    have hc2 : wr.cell? ⟨w.heap.size,i,none⟩ = some (.int .u32 x) := by
     rw [← hxd];exact hA.out.get (mix_get (by omega) (by have := HL.out;have := HM.out;simp;omega))
    have hc3 : (wr.setCell ⟨w.heap.size,i + 1,none⟩ (.int .u32 ((y : Int) * 2 ^ s % 4294967296))).cell? ⟨w.heap.size,i,none⟩ = some (.int .u32 x) := (World.cell?_setCell_other wr _ _ _ (by intro hh;injection hh;omega)).trans hc2
    have hc4 : (wr.setCell ⟨w.heap.size,i + 1,none⟩ (.int .u32 ((y : Int) * 2 ^ s % 4294967296))).cell? ⟨w.heap.size,i + 1,none⟩ = some (.int .u32 ((y : Int) * 2 ^ s % 4294967296)) := World.cell?_setCell_same _ _ _ hc
    have hxw := qa5 (x := (x : Int)) (by omega) (by omega)
    have hiM : (i : Int) < (M : Int) := by omega
    have hi1M : (i : Int) + 1 < (M : Int) := by omega
    have hwi : IntKind.i64.wrap (i : Int) = (i : Int) := by simp [IntKind.wrap,IntKind.bits,IntKind.signed];omega
    have Hx := Lib.hid hx
    clear hx hxd
    go_wp2
    go_region_law (fail)
    all_goals
     have e := shl_limb x y s hs hx1
     have hz : zs[i + 1] = ((y * 2 ^ s % 4294967296 + x * 2 ^ s / 4294967296 : Nat) : Int) := by
      rw [Hzv.out,if_neg (by omega),Nat.add_sub_cancel,Hx.out,Int.toNat_natCast]
     rw [← hz] at e
     have He := Lib.hid e
     clear e hz
     go_wp2
     refine ⟨⟨i + 1,.inr ⟨i,rfl,by go_num⟩,by omega,Lib.hid ?_,((hb.setCell (p := ⟨w.heap.size,i + 1,none⟩) (Nat.le_refl _) _).setCell (p := ⟨w.heap.size,i + 1,none⟩) (Nat.le_refl _) _).drew⟩,by simp [intOf];omega⟩
     rw [He.out,← Hms.out]
     have := (hA.out.set (i + 1) ((y : Int) * 2 ^ s % 4294967296)).set (i + 1) zs[i + 1]
     rw [List.set_set] at this
     exact this
end

section
open Go Go.RowKit Go.Shelf Limb

theorem qbb {x : Int} (h0 : 0 ≤ x) (h1 : x ≤ 1000000000) : IntKind.i64.wrap x = x := by
 simp [IntKind.wrap,IntKind.bits,IntKind.signed]
 omega
set_option maxHeartbeats 2000000 in
set_option maxRecDepth 100000 in
theorem natGuess (bu ou bv ov N cu cv : Nat) (un u1 u2 v1 v2 P U V : Int) (w : World) (hN : 2 ≤ N) (hNl : N ≤ 1000000) (G : Guess un u1 u2 v1 v2 P U V) (hun : un < 4294967296)
  (c0 : w.cell? ⟨bu,ou + N,none⟩ = some (.int .u32 un)) (c1 : w.cell? ⟨bu,ou + (N - 1),none⟩ = some (.int .u32 u1)) (c2 : w.cell? ⟨bu,ou + (N - 2),none⟩ = some (.int .u32 u2))
  (d1 : w.cell? ⟨bv,ov + (N - 1),none⟩ = some (.int .u32 v1)) (d2 : w.cell? ⟨bv,ov + (N - 2),none⟩ = some (.int .u32 v2)) :
  Calls Tryz.prog 246 #[.slice (some ⟨bu,ou,none⟩) (N + 1) cu,.slice (some ⟨bv,ov,none⟩) N cv] w
   fun e w' => ∃ q : Int,e = .returned (.int .u64 q) ∧ (0 ≤ q ∧ q ≤ 4294967296 ∧ (q - 1) * V ≤ U ∧ U < (q + 1) * V) ∧ Below w.heap.size w w' := by
 obtain ⟨N1,hN1⟩ : ∃ N1,N - 1 = N1 := ⟨_,rfl⟩
 obtain ⟨N2,hN2⟩ : ∃ N2,N - 2 = N2 := ⟨_,rfl⟩
 rw [hN1] at c1 d1
 rw [hN2] at c2 d2
 obtain ⟨M,hM⟩ : ∃ M,N + 1 = M := ⟨_,rfl⟩
 rw [hM]
 have k1 : (N : Int) - 1 = (N1 : Int) := by omega
 have k2 : (N : Int) - 2 = (N2 : Int) := by omega
 have kw1 := qbb (x := (N1 : Int)) (by omega) (by omega)
 have kw2 := qbb (x := (N2 : Int)) (by omega) (by omega)
 have l0 : (N : Int) < (M : Int) := by omega
 have l1 : (N1 : Int) < (M : Int) := by omega
 have l2 : (N2 : Int) < (M : Int) := by omega
 have m1 : (N1 : Int) < (N : Int) := by omega
 have m2 : (N2 : Int) < (N : Int) := by omega
 have hun0 := G.n0;have hu10 := G.a0;have hu11 := G.a1;have hu20 := G.b0;have hu21 := G.b1;have hv10 := G.c0;have hv11 := G.c1;have hv20 := G.d0;have hv21 := G.d1
 have x0 := qa5 hun0 (by omega)
 have x1 := qa5 hu10 (by omega)
 have x2 := qa5 hu20 (by omega)
 have y1 := qa5 (x := v1) (by omega) (by omega)
 have y2 := qa5 hv20 (by omega)
 have z0 := qa5 (x := un * 4294967296) (by omega) (by omega)
 have zor := or64 un u1 hun0 hun hu10 hu11
 have hgs := G.start
 obtain ⟨T,hT⟩ : ∃ T,un * 4294967296 + u1 = T := ⟨_,rfl⟩
 rw [hT] at zor hgs
 have hT0 : 0 ≤ T := by omega
 have hT1 : T < 18446744073709551616 := by omega
 have hvn : ¬ v1 = 0 := by omega
 have hq2 : T.tdiv v1 = T / v1 := Int.tdiv_eq_ediv_of_nonneg hT0
 have hq3 := qa5 hgs.q0 (by have := hgs.q1;omega)
 have e0 := fun p => qa7 (w := w) c0 p
 have e1 := fun p => qa7 (w := w) c1 p
 have e2 := fun p => qa7 (w := w) d1 p
 have HT := Lib.hid hT;have HG := Lib.hid G;have Hgs := Lib.hid hgs
 have C2 := Lib.hid c2;have D1 := Lib.hid d1;have D2 := Lib.hid d2
 clear hT G hgs hN1 hN2 hM c0 c1 c2 d1 d2
 go_enter Tryz.func246,Tryz.ntmps246
 go_wp2
 refine qa3 (by kernel_rfl) (by kernel_rfl) ?_
 repeat (go_big_quiet_step (fail))
 refine wpQuiet_nil ?_
 intro _ hw';obtain ⟨p,rfl⟩ := hw'
 have hb1 := qa4 w p
 obtain ⟨w1,hw1⟩ : ∃ w1,w1 = ext w p := ⟨_,rfl⟩
 have e2 := fun q => qa7 (w := w1) (by rw [hw1];exact e2 p) q
 rw [← hw1] at hb1 ⊢
 clear hw1
 go_wp2
 refine qa3 (by kernel_rfl) (by kernel_rfl) ?_
 repeat (go_big_quiet_step (fail))
 refine wpQuiet_nil ?_
 intro _ hw';obtain ⟨p2,rfl⟩ := hw'
 have hb2 : Below w.heap.size w (ext w1 p2) := hb1.trans ((qa4 w1 p2).mono hb1.size)
 clear e0 e1 e2
 go_wp2
 go_loopw [7,8] (fun qv rv wr => ∃ q r : Int,qv = .int .u64 q ∧ rv = .int .u64 r ∧ Hid (GInv un u1 v1 U V q r) ∧ 0 ≤ q ∧ q ≤ 4294967297 ∧ 0 ≤ r ∧ r < 4294967296 ∧ Below w.heap.size w wr) (fun qv _ _ => (intOf qv).toNat)
 case atStart =>
  exact ⟨_,_,rfl,rfl,Hgs,Hgs.out.q0,Hgs.out.q1,Hgs.out.r0,by have := Int.emod_lt_of_pos T (show 0 < v1 by omega);omega,hb2⟩
 case round =>
  obtain ⟨q,r,rfl,rfl,hg,hq0,hq1,hr0,hr1,hb⟩ := hrel
  have e1 := fun p => qa7 (w := wr) ((Same.of_below (S := Any) hb).cell trivial D2.out) p
  have e2 := fun p => qa7 (w := wr) ((Same.of_below (S := Any) hb).cell trivial C2.out) p
  have hqs0 : 0 ≤ q / 4294967296 := Int.ediv_nonneg hq0 (by omega)
  have hw1 := qa5 (x := r * 4294967296) (by omega) (by omega)
  have hor := or64 r u2 hr0 hr1 hu20 hu21
  by_cases hbig : 4294967296 ≤ q
  ·have hne : (q / 4294967296 != 0) = true := bne_iff_ne.2 (by omega)
   obtain ⟨hg2,hq2⟩ := HG.out.step hg.out (.inl hbig)
   have hwq := qa5 (x := q - 1) (by omega) (by omega)
   have hwr := qa5 (x := r + v1) (by omega) (by omega)
   have e3 := fun p => qa7 (w := wr) ((Same.of_below (S := Any) hb).cell trivial D1.out) p
   go_wp2
   refine qa3 (by kernel_rfl) (by kernel_rfl) ?_
   repeat (go_big_quiet_step (fail))
   refine wpQuiet_nil ?_
   intro _ hw';obtain ⟨p,rfl⟩ := hw'
   have hb3 : Below w.heap.size w (ext wr p) := hb.trans ((qa4 wr p).mono hb.size)
   have e4 := e3 p
   by_cases hbr : 4294967296 ≤ r + v1
   ·have hnr : ((r + v1) / 4294967296 != 0) = true := bne_iff_ne.2 (by omega)
    have hov := HG.out.brk hg2 hq2 hbr
    have Hov := Lib.hid hov;have Hg2 := Lib.hid hg2
    clear hov hg2
    go_wp2
    go_ret
    exact ⟨_,rfl,⟨Hg2.out.q0,hq2,Hov.out,Hg2.out.up⟩,hb3⟩
   ·have hnr : ((r + v1) / 4294967296 != 0) = false := by
     have : (r + v1) / 4294967296 = 0 := Int.ediv_eq_zero_of_lt (by omega) (by omega)
     rw [this];rfl
    have Hg2 := Lib.hid hg2
    clear hg2
    go_wp2
    exact ⟨⟨_,_,rfl,rfl,Hg2,Hg2.out.q0,Hg2.out.q1,Hg2.out.r0,by omega,hb3⟩,by simp [intOf];omega⟩
  ·have hne : (q / 4294967296 != 0) = false := by
    have : q / 4294967296 = 0 := Int.ediv_eq_zero_of_lt hq0 (by omega)
    rw [this];rfl
   have hqv0 : 0 ≤ q * v2 := Int.mul_nonneg hq0 hv20
   have hqv1 : q * v2 ≤ 4294967296 * 4294967296 := Int.mul_le_mul (by omega) (by omega) hv20 (by omega)
   have hqv2 : q * v2 < 18446744073709551616 := by
    have := mul_le (c := v2) hv20 (show q ≤ 4294967295 by omega)
    omega
   have hwm := qa5 hqv0 hqv2
   by_cases ht : r * 4294967296 + u2 < q * v2
   ·obtain ⟨hg2, hq2⟩ := HG.out.step hg.out (.inr ht)
    have hq1' : 0 < q := by
     rcases Int.lt_or_le 0 q with h | h
     ·exact h
     ·obtain rfl : q = 0 := by omega
      rw [Int.zero_mul] at ht;omega
    have hwq := qa5 (x := q - 1) (by omega) (by omega)
    have hwr := qa5 (x := r + v1) (by omega) (by omega)
    have e3 := fun p => qa7 (w := wr) ((Same.of_below (S := Any) hb).cell trivial D1.out) p
    clear hqv1
    go_wp2
    refine qa3 (by kernel_rfl) (by kernel_rfl) ?_
    repeat (go_big_quiet_step (fail))
    refine wpQuiet_nil ?_
    intro _ hw';obtain ⟨p,rfl⟩ := hw'
    have hb3 : Below w.heap.size w (ext wr p) := hb.trans ((qa4 wr p).mono hb.size)
    have e4 := e3 p
    by_cases hbr : 4294967296 ≤ r + v1
    ·have hnr : ((r + v1) / 4294967296 != 0) = true := bne_iff_ne.2 (by omega)
     have hov := HG.out.brk hg2 hq2 hbr
     have Hov := Lib.hid hov;have Hg2 := Lib.hid hg2
     clear hov hg2
     go_wp2
     go_ret
     exact ⟨_,rfl,⟨Hg2.out.q0,hq2,Hov.out,Hg2.out.up⟩,hb3⟩
    ·have hnr : ((r + v1) / 4294967296 != 0) = false := by
      have : (r + v1) / 4294967296 = 0 := Int.ediv_eq_zero_of_lt (by omega) (by omega)
      rw [this];rfl
     have Hg2 := Lib.hid hg2
     clear hg2
     go_wp2
     exact ⟨⟨_,_,rfl,rfl,Hg2,Hg2.out.q0,Hg2.out.q1,Hg2.out.r0,by omega,hb3⟩,by simp [intOf];omega⟩
   ·have hov := HG.out.over hg.out (by omega) (by omega)
    have Hov := Lib.hid hov
    clear hov hqv1
    go_wp2
    refine qa3 (by kernel_rfl) (by kernel_rfl) ?_
    repeat (go_big_quiet_step (fail))
    refine wpQuiet_nil ?_
    intro _ hw';obtain ⟨p,rfl⟩ := hw'
    have hb3 : Below w.heap.size w (ext wr p) := hb.trans ((qa4 wr p).mono hb.size)
    go_wp2
    go_ret
    exact ⟨_,rfl,⟨hq0,by omega,Hov.out,hg.out.up⟩,hb3⟩
end

section
open Go Go.RowKit Go.Shelf Limb

theorem splice_get {us ds : List Int} {j i : Nat} (hd : ds.length = i) (hl : j + i < us.length) : (us.take j ++ ds ++ us.drop (j + i))[j + i]? = some us[j + i] := by
 have h1 : (us.take j ++ ds).length = j + i := by rw [List.length_append,List.length_take];omega
 rw [List.getElem?_append_right (by omega),h1,Nat.sub_self,List.getElem?_drop,Nat.add_zero,List.getElem?_eq_getElem hl]
theorem splice_set {us ds : List Int} {j i : Nat} (hd : ds.length = i) (hl : j + i < us.length) (x : Int) : (us.take j ++ ds ++ us.drop (j + i)).set (j + i) x = us.take j ++ (ds ++ [x]) ++ us.drop (j + (i + 1)) := by
 have h1 : (us.take j ++ ds).length = j + i := by rw [List.length_append,List.length_take];omega
 rw [List.set_append_right _ _ (by omega),h1,Nat.sub_self,List.drop_eq_getElem_cons hl,List.set_cons_zero]
 simp [Nat.add_assoc]
theorem part_val {us : List Int} {j i : Nat} (hl : j + i < us.length) : val ((us.drop j).take (i + 1)) = val ((us.drop j).take i) + pw i * us[j + i] := by
 rw [qaq (by rw [List.length_drop];omega),List.getElem_drop]
theorem takes_step (q c b x u : Int) (hq0 : 0 ≤ q) (hq1 : q ≤ 4294967296) (hc0 : 0 ≤ c) (hc : c = 0 ∨ c < q) (hx0 : 0 ≤ x) (hx1 : x < 4294967296) :
  0 ≤ q * x ∧ q * x < 18446744073709551616 ∧ 0 ≤ c + q * x ∧ c + q * x < 18446744073709551616 ∧ 0 ≤ (c + q * x) / 4294967296 ∧ ((c + q * x) / 4294967296 = 0 ∨ (c + q * x) / 4294967296 < q) ∧
   u - (c + q * x) % 4294967296 - b = u - q * x - c - b + 4294967296 * ((c + q * x) / 4294967296) := by
 have h0 : 0 ≤ q * x := Int.mul_nonneg hq0 hx0
 have h1 : q * x ≤ q * 4294967295 := Int.mul_le_mul_of_nonneg_left (by omega) hq0
 generalize q * x = m at *
 refine ⟨h0,by omega,by omega,by omega,Int.ediv_nonneg (by omega) (by omega),?_,by omega⟩
 omega
theorem brw_spec (u y b : Int) (hu0 : 0 ≤ u) (hu1 : u < 4294967296) (hy0 : 0 ≤ y) (hy1 : y < 4294967296) (hb0 : 0 ≤ b) (hb1 : b ≤ 1) :
  u - y - b = (u - y - b) % 4294967296 - 4294967296 * brw u y b ∧ 0 ≤ brw u y b ∧ brw u y b ≤ 1 := by
 unfold brw
 split <;> omega
set_option maxHeartbeats 2000000 in
set_option maxRecDepth 100000 in
theorem natTakes (S : Nat → Prop) (g j L cu cv : Nat) (a : Option Addr) (us vs : List Int) (q : Int) (w : World) (hA : Arr .u32 w g 177 us) (hlu : Lim us) (hL : vs.length = L) (hj : j + (L + 1) ≤ us.length) (hu : us.length ≤ 1000000)
  (hv : RU S w (.slice a L cv) vs) (hS : ¬ S g) (hq0 : 0 ≤ q) (hq1 : q ≤ 4294967296) :
  Calls Tryz.prog 247 #[.slice (some ⟨g,j,none⟩) (L + 1) cu,.slice a L cv,.int .u64 q] w
   fun e w' => ∃ (b : Int) (ds : List Int),e = .returned (.bool (b != 0)) ∧ 0 ≤ b ∧ b ≤ 1 ∧ ds.length = L + 1 ∧ Lim ds ∧ val ((us.drop j).take (L + 1)) - q * val vs = val ds - b * pw (L + 1) ∧
    Arr .u32 w' g 177 (us.take j ++ ds ++ us.drop (j + (L + 1))) ∧ w.grownBy w' (some g) := by
 have hlv := RU.lim hv
 obtain ⟨M,hM⟩ : ∃ M,L + 1 = M := ⟨_,rfl⟩
 have hLl : L ≤ 1000000 := by omega
 have HL := Lib.hid hL;have HM := Lib.hid hM;have Hj := Lib.hid hj;have Hu := Lib.hid hlu
 rw [hM]
 have hLM : (L : Int) < (M : Int) := by omega
 have hll : us.length ≤ 1000000 := hu
 clear hL hM hj hlu hu
 go_enter Tryz.func247,Tryz.ntmps247
 go_wp2
 go_loopw [7,8,13] (fun cvv bvv iv wr => ∃ (i : Nat) (c b : Int) (ds : List Int),iv = .int .i64 i ∧ cvv = .int .u64 c ∧ bvv = .int .u32 b ∧ i ≤ L ∧ 0 ≤ c ∧ (c = 0 ∨ c < q) ∧ 0 ≤ b ∧ b ≤ 1 ∧ Hid (ds.length = i ∧ Lim ds ∧ val ((us.drop j).take i) - q * val (vs.take i) = val ds - (c + b) * pw i) ∧ Hid (Arr .u32 wr g 177 (us.take j ++ ds ++ us.drop (j + i))) ∧ w.grownBy wr (some g)) (fun _ _ iv _ => L - (intOf iv).toNat)
 case atStart =>
  exact ⟨0,0,0,[],rfl,rfl,rfl,Nat.zero_le _,by omega,.inl rfl,by omega,by omega,Lib.hid ⟨rfl,Lim.nil,by simp [val]⟩,Lib.hid (by simpa using hA),gb_refl _ _⟩
 case round =>
  obtain ⟨i,c,b,ds,rfl,rfl,rfl,hi,hc0,hc,hb0,hb1,hd,hAr,hgr⟩ := hrel
  have hvr : RU S wr (.slice a L cv) vs := hv.same (.of_grown hgr (fun b hb e => by cases e;exact hS hb))
  by_cases hlt : i < L
  ·have hjl : j + i < us.length := by have := Hj.out; omega
   obtain ⟨hd1,hd2,hd3⟩ := hd.out
   have hcu : wr.cell? ⟨g,j + i,none⟩ = some (.int .u32 us[j + i]) := hAr.out.get (splice_get hd1 hjl)
   have hfu : wr.frozen? ⟨g,j + i,none⟩ = false := hAr.out.frozen _
   have hvl : i < vs.length := by have := HL.out;omega
   obtain ⟨b2,off2,rfl,-,-,hcv,hx0,hx1⟩ := RU.at hvr hvl
   obtain ⟨hu0,hu1⟩ := Hu.out.get hjl
   obtain ⟨t1,t2,t3,t4,t5,t6,t7⟩ := takes_step q c b vs[i] us[j + i] hq0 hq1 hc0 hc hx0 hx1
   have hB := fun W => bitsSub us[j + i] ((c + q * vs[i]) % 4294967296) b W ⟨hu0,hu1⟩ ⟨Int.emod_nonneg _ (by omega),Int.emod_lt_of_pos _ (by omega)⟩ ⟨hb0,hb1⟩
   obtain ⟨s1,s2,s3⟩ := brw_spec us[j + i] ((c + q * vs[i]) % 4294967296) b hu0 hu1 (Int.emod_nonneg _ (by omega)) (Int.emod_lt_of_pos _ (by omega)) hb0 hb1
   obtain ⟨D,hD⟩ : ∃ D,(us[j + i] - (c + q * vs[i]) % 4294967296 - b) % 4294967296 = D := ⟨_,rfl⟩
   obtain ⟨b',hb'⟩ : ∃ b',brw us[j + i] ((c + q * vs[i]) % 4294967296) b = b' := ⟨_,rfl⟩
   have hD0 : 0 ≤ D := by rw [← hD];exact Int.emod_nonneg _ (by omega)
   have hD1 : D < 4294967296 := by rw [← hD];exact Int.emod_lt_of_pos _ (by omega)
   rw [hD,hb'] at hB s1
   rw [hb'] at s2 s3
   have hfin : (ds ++ [D]).length = i + 1 ∧ Lim (ds ++ [D]) ∧ val ((us.drop j).take (i + 1)) - q * val (vs.take (i + 1)) = val (ds ++ [D]) - ((c + q * vs[i]) / 4294967296 + b') * pw (i + 1) := by
    refine ⟨by rw [List.length_append,hd1];rfl,Lim.append.2 ⟨hd2,Lim.cons.2 ⟨⟨hD0,hD1⟩,Lim.nil⟩⟩,?_⟩
    rw [part_val hjl,qaq hvl,val_snoc,hd1,qal]
    have e1 : us[j + i] - q * vs[i] - c - b + 4294967296 * ((c + q * vs[i]) / 4294967296) = D - 4294967296 * b' := by rw [← t7,s1]
    generalize (c + q * vs[i]) / 4294967296 = c' at *
    have e2 : val ((us.drop j).take i) = val ds - (c + b) * pw i + q * val (vs.take i) := by omega
    rw [e2]
    have e3 : us[j + i] = D - 4294967296 * b' - 4294967296 * c' + q * vs[i] + c + b := by omega
    rw [e3]
    grind
   have hset : ∀ W,W = wr → Arr .u32 (W.setCell ⟨g,j + i,none⟩ (.int .u32 D)) g 177 (us.take j ++ (ds ++ [D]) ++ us.drop (j + (i + 1))) := fun W e => by
    subst e
    rw [← splice_set hd1 hjl D]
    exact hAr.out.set _ _
   have hx2 : vs[i] < 18446744073709551616 := by omega
   have hw1 := qa5 hx0 hx2
   have hw2 := qa5 t1 t2
   have hw3 := qa5 t3 t4
   have hiM : (i : Int) < (M : Int) := by omega
   have hiL : (i : Int) < (L : Int) := by omega
   have Hfin := Lib.hid hfin;have HB := Lib.hid hB;have Hset := Lib.hid hset;have T6 := Lib.hid t6
   clear hfin hB hset hD hb' s1 t7 hd1 hd2 hd3 t6
   go_wp2_with (go_at_call 251;refine (HB.out _).mono ?_;rintro e w1 ⟨rfl,rfl⟩)
   exact ⟨⟨i + 1,_,b',_,by go_num,rfl,rfl,by omega,t5,T6.out,s2,s3,Hfin,Lib.hid (Hset.out _ rfl),gb_trans hgr (gb_setCell wr g (j + i) _)⟩,by simp [intOf];omega⟩
  ·have hiL : i = L := by omega
   subst hiL
   have hjl : j + i < us.length := by have := Hj.out;omega
   obtain ⟨hd1,hd2,hd3⟩ := hd.out
   have hcu : wr.cell? ⟨g,j + i,none⟩ = some (.int .u32 us[j + i]) := hAr.out.get (splice_get hd1 hjl)
   have hfu : wr.frozen? ⟨g,j + i,none⟩ = false := hAr.out.frozen _
   obtain ⟨hu0,hu1⟩ := Hu.out.get hjl
   have hc1 : c < 4294967296 := by omega
   have hcm : c % 4294967296 = c := Int.emod_eq_of_lt hc0 hc1
   have hB := fun W => bitsSub us[j + i] c b W ⟨hu0,hu1⟩ ⟨hc0,hc1⟩ ⟨hb0,hb1⟩
   obtain ⟨s1,s2,s3⟩ := brw_spec us[j + i] c b hu0 hu1 hc0 hc1 hb0 hb1
   obtain ⟨D,hD⟩ : ∃ D,(us[j + i] - c - b) % 4294967296 = D := ⟨_,rfl⟩
   obtain ⟨b',hb'⟩ : ∃ b',brw us[j + i] c b = b' := ⟨_,rfl⟩
   have hD0 : 0 ≤ D := by rw [← hD];exact Int.emod_nonneg _ (by omega)
   have hD1 : D < 4294967296 := by rw [← hD];exact Int.emod_lt_of_pos _ (by omega)
   rw [hD,hb'] at hB s1
   rw [hb'] at s2 s3
   have hfin : (ds ++ [D]).length = i + 1 ∧ Lim (ds ++ [D]) ∧ val ((us.drop j).take (i + 1)) - q * val vs = val (ds ++ [D]) - b' * pw (i + 1) := by
    refine ⟨by rw [List.length_append,hd1];rfl,Lim.append.2 ⟨hd2,Lim.cons.2 ⟨⟨hD0,hD1⟩,Lim.nil⟩⟩,?_⟩
    rw [List.take_of_length_le (Nat.le_of_eq HL.out)] at hd3
    rw [part_val hjl,val_snoc,hd1,qal]
    have e2 : val ((us.drop j).take i) = val ds - (c + b) * pw i + q * val vs := by omega
    rw [e2]
    have e3 : us[j + i] = D - 4294967296 * b' + c + b := by omega
    rw [e3]
    grind
   have hset : ∀ W,W = wr → Arr .u32 (W.setCell ⟨g,j + i,none⟩ (.int .u32 D)) g 177 (us.take j ++ (ds ++ [D]) ++ us.drop (j + (i + 1))) := fun W e => by
    subst e
    rw [← splice_set hd1 hjl D]
    exact hAr.out.set _ _
   have Hfin := Lib.hid hfin;have HB := Lib.hid hB;have Hset := Lib.hid hset
   clear hfin hB hset hD hb' s1 hd1 hd2 hd3
   go_wp2_with (go_at_call 251;refine (HB.out _).mono ?_;rintro e w1 ⟨rfl,rfl⟩)
   go_ret
   have hM := HM.out
   subst hM
   exact ⟨b',ds ++ [D],rfl,s2,s3,Hfin.out.1,Hfin.out.2.1,Hfin.out.2.2,Hset.out _ rfl,gb_trans hgr (gb_setCell wr g (j + i) _)⟩
theorem add_spec (u y b : Int) (hu0 : 0 ≤ u) (hu1 : u < 4294967296) (hy0 : 0 ≤ y) (hy1 : y < 4294967296) (hb0 : 0 ≤ b) (hb1 : b ≤ 1) :
  u + y + b = (u + y + b) % 4294967296 + 4294967296 * ((u + y + b) / 4294967296) ∧ 0 ≤ (u + y + b) / 4294967296 ∧ (u + y + b) / 4294967296 ≤ 1 ∧ 0 ≤ (u + y + b) % 4294967296 ∧ (u + y + b) % 4294967296 < 4294967296 := by
 omega
set_option maxHeartbeats 2000000 in
set_option maxRecDepth 100000 in
theorem natBack (S : Nat → Prop) (g j L cu cv : Nat) (a : Option Addr) (us vs : List Int) (w : World) (hA : Arr .u32 w g 177 us) (hlu : Lim us) (hL : vs.length = L) (hj : j + (L + 1) ≤ us.length) (hu : us.length ≤ 1000000)
  (hv : RU S w (.slice a L cv) vs) (hS : ¬ S g) :
  Calls Tryz.prog 248 #[.slice (some ⟨g,j,none⟩) (L + 1) cu,.slice a L cv] w
   fun e w' => ∃ (c : Int) (ds : List Int),(∃ u,e = .returned u) ∧ ds.length = L + 1 ∧ Lim ds ∧ val ((us.drop j).take (L + 1)) + val vs = val ds + c * pw (L + 1) ∧
    Arr .u32 w' g 177 (us.take j ++ ds ++ us.drop (j + (L + 1))) ∧ w.grownBy w' (some g) := by
 obtain ⟨M,hM⟩ : ∃ M,L + 1 = M := ⟨_,rfl⟩
 have hLl : L ≤ 1000000 := by omega
 have HL := Lib.hid hL;have HM := Lib.hid hM;have Hj := Lib.hid hj;have Hu := Lib.hid hlu
 rw [hM]
 have hLM : (L : Int) < (M : Int) := by omega
 have hll : us.length ≤ 1000000 := hu
 clear hL hM hj hlu hu
 go_enter Tryz.func248,Tryz.ntmps248
 go_wp2
 go_loopw [4,9] (fun bvv iv wr => ∃ (i : Nat) (b : Int) (ds : List Int),iv = .int .i64 i ∧ bvv = .int .u32 b ∧ i ≤ L ∧ 0 ≤ b ∧ b ≤ 1 ∧ Hid (ds.length = i ∧ Lim ds ∧ val ((us.drop j).take i) + val (vs.take i) = val ds + b * pw i) ∧ Hid (Arr .u32 wr g 177 (us.take j ++ ds ++ us.drop (j + i))) ∧ w.grownBy wr (some g)) (fun _ iv _ => L - (intOf iv).toNat)
 case atStart =>
  exact ⟨0,0,[],rfl,rfl,Nat.zero_le _,by omega,by omega,Lib.hid ⟨rfl,Lim.nil,by simp [val]⟩,Lib.hid (by simpa using hA),gb_refl _ _⟩
 case round =>
  obtain ⟨i,b,ds,rfl,rfl,hi,hb0,hb1,hd,hAr,hgr⟩ := hrel
  have hvr : RU S wr (.slice a L cv) vs := hv.same (.of_grown hgr (fun b hb e => by cases e;exact hS hb))
  by_cases hlt : i < L
  ·have hjl : j + i < us.length := by have := Hj.out; omega
   obtain ⟨hd1,hd2,hd3⟩ := hd.out
   have hcu : wr.cell? ⟨g,j + i,none⟩ = some (.int .u32 us[j + i]) := hAr.out.get (splice_get hd1 hjl)
   have hfu : wr.frozen? ⟨g,j + i,none⟩ = false := hAr.out.frozen _
   have hvl : i < vs.length := by have := HL.out;omega
   obtain ⟨b2,off2,rfl,-,-,hcv,hx0,hx1⟩ := RU.at hvr hvl
   obtain ⟨hu0,hu1⟩ := Hu.out.get hjl
   have hB := fun W => bitsAdd us[j + i] vs[i] b W ⟨hu0,hu1⟩ ⟨hx0,hx1⟩ ⟨hb0,hb1⟩
   obtain ⟨s1,s2,s3,s4,s5⟩ := add_spec us[j + i] vs[i] b hu0 hu1 hx0 hx1 hb0 hb1
   obtain ⟨D,hD⟩ : ∃ D,(us[j + i] + vs[i] + b) % 4294967296 = D := ⟨_,rfl⟩
   obtain ⟨b',hb'⟩ : ∃ b',(us[j + i] + vs[i] + b) / 4294967296 = b' := ⟨_,rfl⟩
   rw [hD,hb'] at hB s1
   rw [hb'] at s2 s3
   rw [hD] at s4 s5
   have hfin : (ds ++ [D]).length = i + 1 ∧ Lim (ds ++ [D]) ∧ val ((us.drop j).take (i + 1)) + val (vs.take (i + 1)) = val (ds ++ [D]) + b' * pw (i + 1) := by
    refine ⟨by rw [List.length_append,hd1];rfl,Lim.append.2 ⟨hd2,Lim.cons.2 ⟨⟨s4,s5⟩,Lim.nil⟩⟩,?_⟩
    rw [part_val hjl,qaq hvl,val_snoc,hd1,qal]
    have e2 : val ((us.drop j).take i) = val ds + b * pw i - val (vs.take i) := by omega
    rw [e2]
    have e3 : us[j + i] = D + 4294967296 * b' - vs[i] - b := by omega
    rw [e3]
    grind
   have hset : ∀ W,W = wr → Arr .u32 (W.setCell ⟨g,j + i,none⟩ (.int .u32 D)) g 177 (us.take j ++ (ds ++ [D]) ++ us.drop (j + (i + 1))) := fun W e => by
    subst e
    rw [← splice_set hd1 hjl D]
    exact hAr.out.set _ _
   have hiM : (i : Int) < (M : Int) := by omega
   have hiL : (i : Int) < (L : Int) := by omega
   have Hfin := Lib.hid hfin;have HB := Lib.hid hB;have Hset := Lib.hid hset
   clear hfin hB hset hD hb' s1 hd1 hd2 hd3
   go_wp2_with (go_at_call 252;refine (HB.out _).mono ?_;rintro e w1 ⟨rfl,rfl⟩)
   exact ⟨⟨i + 1,b',_,by go_num,rfl,by omega,s2,s3,Hfin,Lib.hid (Hset.out _ rfl),gb_trans hgr (gb_setCell wr g (j + i) _)⟩,by simp [intOf];omega⟩
  ·have hiL : i = L := by omega
   subst hiL
   have hjl : j + i < us.length := by have := Hj.out;omega
   obtain ⟨hd1,hd2,hd3⟩ := hd.out
   have hcu : wr.cell? ⟨g,j + i,none⟩ = some (.int .u32 us[j + i]) := hAr.out.get (splice_get hd1 hjl)
   have hfu : wr.frozen? ⟨g,j + i,none⟩ = false := hAr.out.frozen _
   obtain ⟨hu0,hu1⟩ := Hu.out.get hjl
   obtain ⟨D,hD⟩ : ∃ D,(us[j + i] + b) % 4294967296 = D := ⟨_,rfl⟩
   have hD0 : 0 ≤ D := by omega
   have hD1 : D < 4294967296 := by omega
   have hfin : (ds ++ [D]).length = i + 1 ∧ Lim (ds ++ [D]) ∧ val ((us.drop j).take (i + 1)) + val vs = val (ds ++ [D]) + ((us[j + i] + b) / 4294967296) * pw (i + 1) := by
    refine ⟨by rw [List.length_append,hd1];rfl,Lim.append.2 ⟨hd2,Lim.cons.2 ⟨⟨hD0,hD1⟩,Lim.nil⟩⟩,?_⟩
    rw [List.take_of_length_le (Nat.le_of_eq HL.out)] at hd3
    rw [part_val hjl,val_snoc,hd1,qal]
    have e2 : val ((us.drop j).take i) = val ds + b * pw i - val vs := by omega
    have e4 := Int.mul_ediv_add_emod (us[j + i] + b) 4294967296
    rw [hD] at e4
    generalize (us[j + i] + b) / 4294967296 = b' at *
    rw [e2]
    have e3 : us[j + i] = D + 4294967296 * b' - b := by omega
    rw [e3]
    grind
   have hset : ∀ W,W = wr → Arr .u32 (W.setCell ⟨g,j + i,none⟩ (.int .u32 D)) g 177 (us.take j ++ (ds ++ [D]) ++ us.drop (j + (i + 1))) := fun W e => by
    subst e
    rw [← splice_set hd1 hjl D]
    exact hAr.out.set _ _
   have Hfin := Lib.hid hfin;have Hset := Lib.hid hset
   clear hfin hset hd1 hd2 hd3
   go_wp2
   go_end0
   have hM := HM.out
   subst hM
   exact ⟨_,ds ++ [D],⟨_,rfl⟩,Hfin.out.1,Hfin.out.2.1,Hfin.out.2.2,Hset.out _ rfl,gb_trans hgr (gb_setCell wr g (j + i) _)⟩
end

section
open Go Go.RowKit Go.Shelf Limb

theorem lead1 {xs : List Int} (h : Lim xs) {k : Nat} (hl : xs.length = k + 1) : xs[k] * pw k ≤ val xs ∧ val xs < (xs[k] + 1) * pw k := by
 have h1 := qaq (xs := xs) (i := k) (by omega)
 rw [List.take_of_length_le (by omega)] at h1
 have k1 := qaf (h.take k)
 have k2 := val_lt (h.take k)
 rw [List.length_take,Nat.min_eq_left (by omega)] at k2
 have e1 : pw k * xs[k] = xs[k] * pw k := Int.mul_comm _ _
 have e2 : (xs[k] + 1) * pw k = xs[k] * pw k + pw k := by grind
 omega
theorem norm {d k x s : Nat} (hl : (lim d).length = k + 1) (hx : (lim d)[k] = (x : Int)) (hlo : 2147483648 ≤ x * 2 ^ s) (hhi : (x + 1) * 2 ^ s ≤ 4294967296) :
  (lim (d * 2 ^ s)).length = k + 1 ∧ ∀ h : k < (lim (d * 2 ^ s)).length,2147483648 ≤ (lim (d * 2 ^ s))[k] := by
 have h1 := lead1 (lim_Lim d) hl
 rw [qap,hx] at h1
 have hP := pw_pos k
 have hS : (0 : Int) < ((2 ^ s : Nat) : Int) := by have := Nat.two_pow_pos s;omega
 obtain ⟨K,hK⟩ : ∃ K : Int,((2 ^ s : Nat) : Int) = K := ⟨_,rfl⟩
 have e0 : ((d * 2 ^ s : Nat) : Int) = (d : Int) * K := by rw [Int.natCast_mul,hK]
 have hx1 : ((x * 2 ^ s : Nat) : Int) = (x : Int) * K := by rw [Int.natCast_mul,hK]
 have hx2 : (((x + 1) * 2 ^ s : Nat) : Int) = ((x : Int) + 1) * K := by rw [Int.natCast_mul,hK];rfl
 have hlo' : 2147483648 ≤ (x : Int) * K := by omega
 have hhi' : ((x : Int) + 1) * K ≤ 4294967296 := by omega
 rw [hK] at hS
 have a1 := mul_lt hS h1.2
 have a2 := mul_le (c := K) (by omega) h1.1
 have a3 := mul_le (c := pw k) (by omega) hhi'
 have a4 := mul_le (c := pw k) (by omega) hlo'
 have e1 : ((x : Int) + 1) * pw k * K = ((x : Int) + 1) * K * pw k := by grind
 have e2 : (x : Int) * pw k * K = (x : Int) * K * pw k := by grind
 have hlen : (lim (d * 2 ^ s)).length = k + 1 := by
  have u1 : (lim (d * 2 ^ s)).length ≤ k + 1 := qah (by rw [qal,e0];omega)
  have u2 : (lim d).length ≤ (lim (d * 2 ^ s)).length := qb4 (Nat.le_mul_of_pos_right _ (Nat.two_pow_pos s))
  omega
 refine ⟨hlen,fun h => ?_⟩
 have h2 := lead1 (lim_Lim (d * 2 ^ s)) hlen
 rw [qap,e0] at h2
 have := lt_of_mul (a := 2147483648) (b := (lim (d * 2 ^ s))[k] + 1) (c := pw k) (by omega) (by omega)
 omega
theorem digit0 {U V q D pn : Int} (hV : 0 < V) (hs : U < V * 4294967296) (hU : U < (q + 1) * V) (he : U - q * V = D) (hD : 0 ≤ D) (_hp : D < pn) : q < 4294967296 ∧ U = q * V + D ∧ D < V := by
 have e : (q + 1) * V = q * V + V := by grind
 refine ⟨?_,by omega,by omega⟩
 refine lt_of_mul (c := V) (by omega) ?_
 have : 4294967296 * V = V * 4294967296 := Int.mul_comm _ _
 omega
theorem digit1 {U V q D D' c pn : Int} (hVp : V < pn) (hU0 : 0 ≤ U) (hq0 : 0 ≤ q) (hq : q ≤ 4294967296) (hU : (q - 1) * V ≤ U) (he : U - q * V = D - pn) (hD1 : D < pn) (hb : D + V = D' + c * pn) (hD' : 0 ≤ D') (hD1' : D' < pn) :
  0 ≤ q - 1 ∧ q - 1 < 4294967296 ∧ U = (q - 1) * V + D' ∧ D' < V := by
 have e : (q - 1) * V = q * V - V := by grind
 have hq1 : 0 < q := by
  rcases Int.lt_or_le 0 q with h | h
  ·exact h
  ·obtain rfl : q = 0 := by omega
   rw [Int.zero_mul] at he;omega
 have hc : c = 1 := by
  have h1 : 0 < c := by
   rcases Int.lt_or_le 0 c with h | h
   ·exact h
   ·have := mul_le (c := pn) (by omega) (show c ≤ 0 from h)
    omega
  have h2 : c < 2 := by
   refine lt_of_mul (c := pn) (by omega) ?_
   omega
  omega
 subst hc
 omega
theorem shr_take {us : List Int} {L s i : Nat} (hu : Lim us) (hi : i < L) (hl : L < us.length) (hz : us[L] = 0) : shrAt (us.take L) s i = ((us[i + 1]'(by omega) * 4294967296 + us[i]'(by omega)) / ((2 ^ s : Nat) : Int)) % 4294967296 := by
 have _ := hu
 have h1 : (us.take L).getD i 0 = us[i]'(by omega) := by rw [List.getD,List.getElem?_take_of_lt hi,List.getElem?_eq_getElem (by omega)];rfl
 have h2 : (us.take L).getD (i + 1) 0 = us[i + 1]'(by omega) := by
  by_cases h : i + 1 < L
  ·rw [List.getD,List.getElem?_take_of_lt h,List.getElem?_eq_getElem (by omega)];rfl
  ·have e : i + 1 = L := by omega
   subst e
   rw [List.getD,List.getElem?_eq_none (by rw [List.length_take];omega),hz];rfl
 rw [shrAt,h1,h2]
theorem top_zero {us : List Int} {L : Nat} (hu : Lim us) (hl : L < us.length) (h : val us < pw L) : us[L] = 0 ∧ val (us.take L) = val us := by
 have h1 := qao us L (by omega)
 have h2 := qas hl
 have k1 := qaf (hu.take L)
 have k3 := qaf (hu.drop L)
 have k4 := qaf (hu.drop (L + 1))
 have hg := hu.get hl
 have hP := pw_pos L
 have hz : val (us.drop L) = 0 := by
  rcases Int.lt_or_le 0 (val (us.drop L)) with hlt | hle
  ·have := mul_le (c := pw L) (by omega) (show (1 : Int) ≤ val (us.drop L) from hlt)
   have e : val (us.drop L) * pw L = pw L * val (us.drop L) := Int.mul_comm _ _
   omega
  ·omega
 rw [hz,Int.mul_zero] at h1
 exact ⟨by omega,by omega⟩
theorem long_end {n d s Q R : Nat} (hd : 0 < d) (h : n * 2 ^ s = Q * (d * 2 ^ s) + R) (hR : R < d * 2 ^ s) : Q = n / d ∧ R / 2 ^ s = n % d := by
 have hp := Nat.two_pow_pos s
 have h1 := Nat.div_add_mod n d
 have h2 := Nat.mod_lt n hd
 have e1 : n * 2 ^ s = (n / d) * (d * 2 ^ s) + (n % d) * 2 ^ s := by
  rw [← Nat.mul_assoc,← Nat.add_mul,Nat.mul_comm (n / d) d,h1]
 have e2 : (n % d) * 2 ^ s < d * 2 ^ s := Nat.mul_lt_mul_of_pos_right h2 hp
 obtain ⟨a1,a2⟩ := div_of h hR
 obtain ⟨b1,b2⟩ := div_of e1 e2
 refine ⟨by omega,?_⟩
 rw [a2,← b2,Nat.mul_div_cancel _ hp]
end

section
open Go Go.RowKit Go.Shelf Limb

theorem bitLen_two : ∀ (x : Nat),x ≠ 0 → x < 2 ^ 64 → 0 < Go.Lib.bitLen x ∧ x < 2 ^ Go.Lib.bitLen x ∧ 2 ^ (Go.Lib.bitLen x - 1) ≤ x := by
 intro x
 induction x using Nat.strongRecOn with
 | ind x ih =>
  intro h0 h1
  have e := Go.Lib.bitLen_half x h0 h1
  by_cases h2 : x / 2 = 0
  ·have : x = 1 := by omega
   subst this
   decide
  ·obtain ⟨a1, a2, a3⟩ := ih (x / 2) (by omega) h2 (by omega)
   rw [e]
   generalize Go.Lib.bitLen (x / 2) = b at *
   obtain ⟨c,rfl⟩ : ∃ c,b = c + 1 := ⟨b - 1,by omega⟩
   simp only [Nat.pow_succ,Nat.add_sub_cancel,Nat.add_comm 1] at *
   omega
theorem lead_shift (x : Nat) (h0 : x ≠ 0) (h1 : x < 4294967296) : ∃ s : Nat,(32 : Int) - (Go.Lib.bitLen x : Int) = (s : Int) ∧ s < 32 ∧ 2147483648 ≤ x * 2 ^ s ∧ (x + 1) * 2 ^ s ≤ 4294967296 := by
 obtain ⟨a1,a2,a3⟩ := bitLen_two x h0 (by omega)
 have a4 : Go.Lib.bitLen x ≤ 32 := Go.Lib.bitLen_le x 32 (by omega) (by omega)
 generalize Go.Lib.bitLen x = b at *
 refine ⟨32 - b,by omega,by omega,?_,?_⟩
 ·have := Nat.mul_le_mul_right (2 ^ (32 - b)) a3
  rw [← Nat.pow_add,show b - 1 + (32 - b) = 31 by omega] at this
  exact this
 ·have := Nat.mul_le_mul_right (2 ^ (32 - b)) (Nat.succ_le_of_lt a2)
  rw [← Nat.pow_add,show b + (32 - b) = 32 by omega] at this
  exact this
set_option maxHeartbeats 4000000 in
set_option maxRecDepth 100000 in
theorem natLongF (va vb : Value) (n d : Nat) (w : World) (ha : NumAt w va n) (hb : NumAt w vb d) (hla : (lim n).length ≤ 100000) (hlb : 2 ≤ (lim d).length) (hle : (lim d).length ≤ (lim n).length) :
  Calls Tryz.prog 235 #[va,vb] w fun e w' => ∃ a c a' c',e = .returned (.tuple #[.slice a (lim (n / d)).length c,.slice a' (lim (n % d)).length c']) ∧ RU (From w.heap.size) w' (.slice a (lim (n / d)).length c) (lim (n / d)) ∧ NumAt w' (.slice a' (lim (n % d)).length c') (n % d) ∧ Below w.heap.size w w' := by
 have hbr := hb.ru
 obtain ⟨k,hk⟩ : ∃ k,(lim d).length = k + 2 := ⟨(lim d).length - 2,by omega⟩
 have hk1 : k + 1 < (lim d).length := by omega
 obtain ⟨a2,c2,rfl⟩ := hb.shape
 obtain ⟨bb,offb,rfl,-,-,hcb,hx0,hx1⟩ := RU.at hbr hk1
 obtain ⟨x,hx⟩ : ∃ x : Nat,(lim d)[k + 1] = x := ⟨((lim d)[k + 1]).toNat,by omega⟩
 have hxn : x ≠ 0 := by
  intro e
  have h0 : lim d ≠ [] := fun e => by rw [e] at hk;cases hk
  have := lim_last h0
  rw [List.getLast_eq_getElem] at this
  apply this
  have : (lim d).length - 1 = k + 1 := by omega
  simp only [this,hx,e]
  rfl
 rw [hx] at hcb hx1
 obtain ⟨s,hs0,hs,hs1,hs2⟩ := lead_shift x hxn (by omega)
 have hz := fun W => Tryz.bits_LeadingZeros32 (x : Int) W (by omega) (by omega)
 simp only [Int.toNat_natCast,hs0] at hz
 obtain ⟨hnl,hnt⟩ := norm (k := k + 1) hk hx hs1 hs2
 -- the two numbers shifted
 obtain ⟨us0,hus0⟩ : ∃ us0,shl s 0 (lim n) = us0 := ⟨_,rfl⟩
 obtain ⟨vs0,hvs0⟩ : ∃ vs0,shl s 0 (lim d) = vs0 := ⟨_,rfl⟩
 obtain ⟨hu1,hu2,hu3⟩ := shl_spec s hs (lim_Lim n) 0 (Nat.two_pow_pos s)
 obtain ⟨hv1,hv2,hv3⟩ := shl_spec s hs (lim_Lim d) 0 (Nat.two_pow_pos s)
 rw [hus0] at hu1 hu2 hu3
 rw [hvs0] at hv1 hv2 hv3
 rw [qap] at hu3 hv3
 obtain ⟨vs,hvs⟩ : ∃ vs,lim (d * 2 ^ s) = vs := ⟨_,rfl⟩
 have hvv : val vs = ((d * 2 ^ s : Nat) : Int) := by rw [← hvs,qap]
 have hvl := lim_Lim (d * 2 ^ s)
 rw [hvs] at hnl hnt hvl
 obtain ⟨M1,hM1⟩ : ∃ M1,us0.length = M1 := ⟨_,rfl⟩
 obtain ⟨L2,hL2⟩ : ∃ L2,k + 2 = L2 := ⟨_,rfl⟩
 obtain ⟨K,hK⟩ : ∃ K,M1 - L2 = K := ⟨_,rfl⟩
 have hS1 : ∀ W,Below w.heap.size w W → Calls Tryz.prog 245 #[va,.int .i64 s] W fun e w' => ∃ g,e = .returned (.slice (some ⟨g,0,none⟩) M1 M1) ∧ W.heap.size ≤ g ∧ Arr .u32 w' g 177 us0 ∧ Below W.heap.size W w' := fun W hW =>
  (natShifted va n s W (ha.same hW) (by omega) hs).mono fun e w' ⟨u, he, ⟨g, hv, hg, hA⟩, hb⟩ => by
   rw [hus0] at hv hA
   exact ⟨g,by rw [he,hv,hM1],hg,hA,hb⟩
 have hS2 : ∀ W,Below w.heap.size w W → Calls Tryz.prog 245 #[.slice (some ⟨bb,offb,none⟩) (lim d).length c2,.int .i64 s] W fun e w' => ∃ g,e = .returned (.slice (some ⟨g,0,none⟩) vs0.length vs0.length) ∧ W.heap.size ≤ g ∧ Arr .u32 w' g 177 vs0 ∧ Below W.heap.size W w' := fun W hW =>
  (natShifted _ d s W (hb.same hW) (by omega) hs).mono fun e w' ⟨u, he, ⟨g, hv, hg, hA⟩, hb⟩ => by
   rw [hvs0] at hv hA
   exact ⟨g,by rw [he,hv],hg,hA,hb⟩
 have hTr : ∀ W g,Arr .u32 W g 177 vs0 → Calls Tryz.prog 165 #[.slice (some ⟨g,0,none⟩) vs0.length vs0.length] W fun e w' => ∃ a,e = .returned (.slice a L2 L2) ∧ RU (· = g) W (.slice a L2 L2) vs ∧ W = w' := fun W g hA =>
  (natTrim (· = g) _ vs0 W (hA.all (S := (· = g)) rfl (Lim.wf hv1) (by omega) rfl (Nat.le_refl _))).mono fun e w' ⟨a, he, hr, hw⟩ => by
   have e1 : (val vs0).toNat = d * 2 ^ s := by
    have : val vs0 = ((d * 2 ^ s : Nat) : Int) := by rw [hv3,Int.natCast_mul,Int.mul_comm];simp
    rw [this,Int.toNat_natCast]
   rw [e1,hvs,hnl,hL2] at he hr
   exact ⟨a,he,hr,hw⟩
 have hmk := run_make_row' (P := Tryz.prog) 54 177 (.int .u32 0) 4 Tryz.underlying54 Tryz.infoU32 rfl .i64 .i64 K (by omega) (by omega)
 obtain ⟨a1,c1,rfl⟩ := ha.shape
 have hk' : (lim d).length = L2 := by omega
 obtain ⟨K1,hK1⟩ : ∃ K1,k + 1 = K1 := ⟨_,rfl⟩
 obtain ⟨V0,hV0⟩ : ∃ V0,vs0.length = V0 := ⟨_,rfl⟩
 obtain ⟨L1,hL1⟩ : ∃ L1,(lim n).length = L1 := ⟨_,rfl⟩
 rw [hV0] at hS2 hTr
 rw [hk'] at hS2
 rw [hk',hL1]
 rw [hL1] at hS1 hla hu2 hle
 rw [hK1] at hcb hnt
 have q1 : (L2 : Int) - 1 = (K1 : Int) := by omega
 have q2 : (M1 : Int) - (L2 : Int) = (K : Int) := by omega
 have q3 : (K1 : Int) < (L2 : Int) := by omega
 have q4 := qbb (x := (K1 : Int)) (by omega) (by omega)
 have b1 : L2 ≤ 100000 := by omega
 have b2 : M1 ≤ 100001 := by omega
 have b3 : K ≤ 100001 := by omega
 have b4 : 2 ≤ L2 := by omega
 have b5 : L2 < M1 := by omega
 have hmk2 := run_make_row' (P := Tryz.prog) 54 177 (.int .u32 0) 4 Tryz.underlying54 Tryz.infoU32 rfl .i64 .i64 L2 (by omega) (by omega)
 have hVlt : ((d * 2 ^ s : Nat) : Int) < pw L2 := by
  have := val_lt hvl
  rw [hvv,hnl,hL2] at this
  exact this
 have hd0 : 0 < d := by
  rcases Nat.eq_zero_or_pos d with rfl | h
  ·rw [qaj] at hk;simp at hk
  ·exact h
 have hVpos : (0 : Int) < ((d * 2 ^ s : Nat) : Int) := by have := Nat.mul_pos hd0 (Nat.two_pow_pos s);omega
 obtain ⟨V,hV⟩ : ∃ V : Int,((d * 2 ^ s : Nat) : Int) = V := ⟨_,rfl⟩
 obtain ⟨A,hAe⟩ : ∃ A : Int,((n * 2 ^ s : Nat) : Int) = A := ⟨_,rfl⟩
 rw [hV] at hvv hVlt hVpos
 have hua : val us0 = A := by rw [hu3,← hAe,Int.natCast_mul,Int.mul_comm];simp
 have hstart : LInv A V L2 us0 (List.replicate K 0) K := by
  refine ⟨hu1,Lim.zeros K,by rw [List.length_replicate];omega,by rw [List.length_replicate];exact Nat.le_refl _,?_,?_⟩
  ·rw [hua, ← hAe]
   have h1 := lt_of_lim n
   rw [hL1] at h1
   have hp : 2 ^ s ≤ 2147483648 := by
    have : 2 ^ s ≤ 2 ^ 31 := Nat.pow_le_pow_right (by omega) (by omega)
    exact this
   have h3 : ((n * 2 ^ s : Nat) : Int) = (n : Int) * ((2 ^ s : Nat) : Int) := Int.natCast_mul _ _
   have hS0 : (0 : Int) < ((2 ^ s : Nat) : Int) := by have := Nat.two_pow_pos s;omega
   have h4 := mul_lt hS0 h1
   have h5 := Int.mul_le_mul_of_nonneg_left (show ((2 ^ s : Nat) : Int) ≤ 2147483648 by omega) (Int.le_of_lt (pw_pos L1))
   have h6 : 2147483648 * pw K1 ≤ V := by
    subst hK1
    have hl1 := lead1 hvl hnl
    rw [hvv] at hl1
    have ht := hnt (by rw [hnl];omega)
    have := mul_le (c := pw (k + 1)) (Int.le_of_lt (pw_pos _)) ht
    omega
   have h7 := mul_le (c := pw K) (Int.le_of_lt (pw_pos K)) h6
   have h8 : 2147483648 * pw K1 * pw K = 2147483648 * pw L1 := by
    rw [Int.mul_assoc,← pw_add]
    congr 2
    omega
   have h9 : pw L1 * 2147483648 = 2147483648 * pw L1 := Int.mul_comm _ _
   omega
  ·rw [hua, List.drop_of_length_le (by simp)]
   simp [val]
 have Hst := Lib.hid hstart;have HS1 := Lib.hid hS1;have HS2 := Lib.hid hS2;have HTr := Lib.hid hTr;have HZ := Lib.hid hz
 have Hvs := Lib.hid (And.intro hvl (And.intro (show vs.length = L2 by omega) (And.intro hvv hnt)))
 have HV := Lib.hid (And.intro hV (And.intro hAe hd0));have HK1 := Lib.hid (show K1 + 1 = L2 by omega);have HM1 := Lib.hid (And.intro hM1 (show K + L2 = M1 by omega));have Hvp := Lib.hid (And.intro hVlt hVpos)
 clear hx0 hstart hS1 hS2 hTr hz hvl hvv hnl hnt hV hAe hVlt hVpos hua hu1 hu2 hu3 hv1 hv2 hv3 hus0 hvs0 hvs hM1 hL2 hK hK1 hV0 hL1 hk' hk hk1 hx hs0 hs1 hs2 ha hb hbr
 go_enter Tryz.func235,Tryz.ntmps235
 go_wp2_with (first
  | (go_at_call 244;refine (HZ.out _).mono ?_;rintro e w' ⟨rfl,hww⟩;obtain rfl : w = w' := hww.symm)
  | (go_at_call_of 245 (c1);refine (HS1.out _ (Below.refl _ _)).mono ?_;rintro e w1 ⟨g1,rfl,hg1,hA1,hb1⟩;have hl1 := hb1.size;have HA1 := Lib.hid hA1;clear hA1)
  | (go_at_call 245;refine (HS2.out _ hb1).mono ?_;rintro e w2 ⟨g2,rfl,hg2,hA2,hb2⟩;have hl2 := hb2.size;have hlg := hA2.lt;have HA2 := Lib.hid hA2;clear hA2)
  | (go_at_call 165;refine (HTr.out _ _ HA2.out).mono ?_;rintro e w3 ⟨a3,rfl,hr3,rfl⟩))
 have hA3 := Arr.madeN (k := .u32) w2 K 177
 have hg1w : g1 < w2.heap.size := by have := HA1.out.lt;omega
 have hb3 : Below w.heap.size w (w2.alloc (.cells (madeCells #[.int .u32 0] K) 177)) := (hb1.trans (hb2.mono hl1)).alloc (by omega) _
 have hA1' : Arr .u32 (w2.alloc (.cells (madeCells #[.int .u32 0] K) 177)) g1 177 us0 := (HA1.out.below hb2).below (qa1 _ _)
 have hr3' := hr3.below (qa1 w2 (.cells (madeCells #[.int .u32 0] K) 177))
 have hne12 : g1 ≠ g2 := by have := HA1.out.lt;omega
 obtain ⟨g3,hg3⟩ : ∃ g3,w2.heap.size = g3 := ⟨_,rfl⟩
 have Hg3 := Lib.hid hg3
 rw [hg3] at hA3 hg1w ⊢
 clear hg3
 go_loopw [10] (fun i wr => ∃ (kk : Nat) (us qs : List Int),((kk = 0 ∧ i = .int .i64 (-1)) ∨ ∃ j : Nat,kk = j + 1 ∧ i = .int .i64 j) ∧ kk ≤ K ∧ Hid (LInv A V L2 us qs kk) ∧ Hid (us.length = M1 ∧ qs.length = K) ∧ Hid (Arr .u32 wr g1 177 us) ∧ Hid (Arr .u32 wr g3 177 qs) ∧ RU (· = g2) wr (.slice a3 L2 L2) vs ∧ Below w.heap.size w wr) (fun i _ => (intOf i + 1).toNat)
 case atStart =>
  refine ⟨K,us0,_,?_,Nat.le_refl _,Hst,Lib.hid ⟨HM1.out.1,by simp⟩,Lib.hid hA1',Lib.hid hA3,hr3',hb3⟩
  by_cases h0 : K = 0
  ·exact .inl ⟨h0,by rw [h0];rfl⟩
  ·exact .inr ⟨K - 1,by omega,by congr 1;omega⟩
 case round =>
  obtain ⟨kk,us,qs,hi,hkk,hL,hlen,hAu,hAq,hrv,hb⟩ := hrel
  rcases hi with ⟨rfl,rfl⟩ | ⟨j,rfl,rfl⟩
  ·obtain ⟨hul, hql⟩ := hlen.out
   obtain ⟨hV,hA,hd0⟩ := HV.out
   obtain ⟨hdn1,hdn2⟩ := hL.out.done
   obtain ⟨hVlt,hVpos⟩ := Hvp.out
   have hlu := hL.out.lu
   have hlq := hL.out.lq
   obtain ⟨hz0,htk⟩ := top_zero hlu (by omega : L2 < us.length) (by omega)
   have hQ0 := qaf hlq
   have hR0 := qaf hlu
   obtain ⟨Q,hQ⟩ : ∃ Q : Nat,val qs = Q := ⟨(val qs).toNat,by omega⟩
   obtain ⟨R,hR⟩ : ∃ R : Nat,val us = R := ⟨(val us).toNat,by omega⟩
   obtain ⟨e1,e2⟩ := long_end (n := n) (d := d) (s := s) (Q := Q) (R := R) hd0 (by
    rw [← hA,← hV,hQ,hR] at hdn1
    have : ((Q * (d * 2 ^ s) + R : Nat) : Int) = (Q : Int) * ((d * 2 ^ s : Nat) : Int) + R := by rw [Int.natCast_add,Int.natCast_mul]
    omega) (by rw [← hV,hR] at hdn2;omega)
   have hqv : val qs = ((n / d : Nat) : Int) := by rw [hQ,e1]
   have hrv : val (us.take L2) / ((2 ^ s : Nat) : Int) = ((n % d : Nat) : Int) := by
    rw [htk,hR,← e2]
    exact (Int.natCast_ediv R (2 ^ s)).symm
   obtain ⟨hs1,hs2⟩ := shrs s hs (hlu.take L2)
   have htl : (us.take L2).length = L2 := by rw [List.length_take];omega
   rw [htl,hrv] at hs2
   rw [htl] at hs1
   have hat : ∀ i,i < L2 → shrAt (us.take L2) s i = ((us.getD (i + 1) 0 * 4294967296 + us.getD i 0) / ((2 ^ s : Nat) : Int)) % 4294967296 := fun i h => by rw [shr_take hlu h (by omega) hz0,getE,getE]
   have hcu : ∀ W,Arr .u32 W g1 177 us → ∀ i,i < L2 → W.cell? ⟨g1,i,none⟩ = some (.int .u32 (us.getD i 0)) ∧ W.cell? ⟨g1,i + 1,none⟩ = some (.int .u32 (us.getD (i + 1) 0)) := fun W hW i h => ⟨by rw [getE (by omega)];exact hW.cell (by omega),by rw [getE (by omega)];exact hW.cell (by omega)⟩
   have hub : ∀ i,0 ≤ us.getD i 0 ∧ us.getD i 0 < 4294967296 := fun i => hlu.getD i
   have hg13 : g1 < wr.heap.size := hAu.out.lt
   have hg3r : g3 < wr.heap.size := hAq.out.lt
   have hlr := hb.size
   have Hqv := Lib.hid hqv;have Hs1 := Lib.hid hs1;have Hs2 := Lib.hid hs2;have Hat := Lib.hid hat;have Hcu := Lib.hid hcu;have Hub := Lib.hid hub;have Hlq := Lib.hid hlq;have Hul := Lib.hid hul;have Hql := Lib.hid hql
   obtain ⟨wl,rfl⟩ : ∃ wl,wl = wr := ⟨_,rfl⟩
   have hA4 := Arr.madeN (k := .u32) wl L2 177
   have hb4 := qa1 wl (.cells (madeCells #[.int .u32 0] L2) 177)
   clear hqv hs1 hs2 hat hcu hub hlq hul hql hrv e1 e2 hQ hR hQ0 hR0 hz0 htk hlu hVlt hVpos hdn1 hdn2 hV hA hd0 htl
   go_wp2
   go_loopw [74] (fun i wr => ∃ (p : Nat) (rs : List Int),i = .int .i64 p ∧ p ≤ L2 ∧ Hid (rs.length = L2 ∧ ∀ i,i < p → rs[i]? = some (shrAt (us.take L2) s i)) ∧ Hid (Arr .u32 wr wl.heap.size 177 rs) ∧ Below wl.heap.size wl wr) (fun i _ => L2 - (intOf i).toNat)
   case atStart => exact ⟨0,_,rfl,Nat.zero_le _,Lib.hid ⟨by simp,fun i h => by omega⟩,Lib.hid hA4,hb4⟩
   case round =>
    obtain ⟨p,rs,rfl,hp,hrs,hAr,hbr⟩ := hrel
    by_cases hlt : p < L2
    ·obtain ⟨hu0, hu1⟩ := Hcu.out wr (hAu.out.below hbr) p hlt
     obtain ⟨x0,hx0⟩ : ∃ x0,us.getD p 0 = x0 := ⟨_,rfl⟩
     obtain ⟨x1,hx1⟩ : ∃ x1,us.getD (p + 1) 0 = x1 := ⟨_,rfl⟩
     have hb0 := Hub.out p
     have hb1' := Hub.out (p + 1)
     have hv := Hat.out p hlt
     rw [hx0] at hu0 hb0
     rw [hx1] at hu1 hb1'
     rw [hx0,hx1] at hv
     have w1' := qa5 (x := x1) hb1'.1 (by omega)
     have w0' := qa5 (x := x0) hb0.1 (by omega)
     have w2' := qa5 (x := x1 * 4294967296) (by omega) (by omega)
     have w3' := or64 x1 x0 hb1'.1 hb1'.2 hb0.1 hb0.2
     have p1 : (p : Int) < (L2 : Int) := by omega
     obtain ⟨P1,hP1⟩ : ∃ P1,p + 1 = P1 := ⟨_,rfl⟩
     rw [hP1] at hu1
     have p2 : (p : Int) + 1 = (P1 : Int) := by omega
     have p4 := qbb (x := (P1 : Int)) (by omega) (by omega)
     have p5 : (P1 : Int) < (M1 : Int) := by omega
     have HP1 := Lib.hid hP1
     clear hP1
     have p3 : (p : Int) < (M1 : Int) := by omega
     have hpr : p < rs.length := by have := hrs.out.1;omega
     have hcr : wr.cell? ⟨wl.heap.size,p,none⟩ = some (.int .u32 rs[p]) := hAr.out.cell hpr
     have hfr : wr.frozen? ⟨wl.heap.size,p,none⟩ = false := hAr.out.frozen p
     have Hv := Lib.hid hv
     clear hx0 hx1 hv
     go_wp2
     go_region_law (fail)
     all_goals
      have hwu : ∀ z : Int,IntKind.u32.wrap z = z % 4294967296 := fun z => IntKind.wrap_u32' z
      go_wp2
      refine ⟨⟨P1,_,by go_num,by have := HP1.out;omega,Lib.hid ⟨by rw [List.length_set];exact hrs.out.1,fun i hi => ?_⟩,Lib.hid (hAr.out.set p _),(hbr.setCell (p := ⟨wl.heap.size,p,none⟩) (Nat.le_refl _) _).drew⟩,by simp [intOf];omega⟩
      by_cases hip : i = p
      ·subst hip
       rw [List.getElem?_set_self hpr,Hv.out]
       simp
      ·rw [List.getElem?_set_ne (by omega)]
       exact hrs.out.2 i (by have := HP1.out;omega)
    ·have hpL : p = L2 := by omega
     subst hpL
     have hrl : rs = (List.range p).map (shrAt (us.take p) s) := by
      apply List.ext_getElem?
      intro i
      by_cases hi : i < p
      ·rw [hrs.out.2 i hi,List.getElem?_map,List.getElem?_range hi];rfl
      ·rw [List.getElem?_eq_none (by have := hrs.out.1;omega),List.getElem?_eq_none (by simp;omega)]
     have hTq := fun W (hW : Below wr.heap.size wr W) => trimF (((hAq.out.below hbr).below hW).all (S := From w.heap.size) (show w.heap.size ≤ g3 by have := Hg3.out;omega) (Lim.wf Hlq.out) (by have := Hql.out;omega) Hql.out.symm (Nat.le_refl _)) Hqv.out
     have hTr2 := fun W (hW : Below wr.heap.size wr W) => trimN ((hAr.out.below hW).all (S := Any) trivial (Lim.wf (by rw [hrl];exact Hs1.out)) (by have := hrs.out.1;omega) hrs.out.1.symm (Nat.le_refl _)) (by rw [hrl];exact Hs2.out)
     have HTq := Lib.hid hTq;have HTr2 := Lib.hid hTr2
     clear hTq hTr2 hrl
     go_wp2_with (first
      | (go_at_call_of 165 (g3);refine (HTq.out _ (Below.refl _ _)).mono ?_;rintro e w7 ⟨a7,c7,rfl,hN7,rfl⟩;have HN7 := Lib.hid hN7;clear hN7)
      | (go_at_call 165;refine (HTr2.out _ (Below.refl _ _)).mono ?_;rintro e w8 ⟨a8,c8,rfl,hN8,rfl⟩;have HN8 := Lib.hid hN8;clear hN8))
     go_ret2
     exact ⟨a7,c7,a8,c8,rfl,HN7.out,HN8.out,hb.trans (hbr.mono hlr)⟩
  ·obtain ⟨h0, hh0⟩ : ∃ h0, j + L2 = h0 := ⟨_, rfl⟩
   obtain ⟨h,hh⟩ : ∃ h,h0 + 1 = h := ⟨_,rfl⟩
   have hM := HM1.out.2
   have r1 : (j : Int) + (L2 : Int) = (h0 : Int) := by omega
   have r2 : (h0 : Int) + 1 = (h : Int) := by omega
   have r3 := qbb (x := (h0 : Int)) (by omega) (by omega)
   have r4 := qbb (x := (h : Int)) (by omega) (by omega)
   have r5 : (j : Int) ≤ (h : Int) := by omega
   have r6 : (h : Int) ≤ (M1 : Int) := by omega
   have r7 : (h : Int) - (j : Int) = ((L2 + 1 : Nat) : Int) := by omega
   have r8 : h - j = L2 + 1 := by omega
   have r9 : h ≤ M1 := by omega
   have r10 : j ≤ h := by omega
   have Hh := Lib.hid hh;have Hh0 := Lib.hid hh0
   clear hM hh hh0
   -- the leading limbs
   obtain ⟨hvl,hvn,hvv,hvt⟩ := Hvs.out
   obtain ⟨hVlt,hVpos⟩ := Hvp.out
   obtain ⟨hul,hql⟩ := hlen.out
   have hK1 := HK1.out
   obtain ⟨hp1,hp2,hp3,hp4⟩ := hL.out.part hVlt hVpos
   obtain ⟨P,hP⟩ : ∃ P,(us.drop j).take (L2 + 1) = P := ⟨_,rfl⟩
   rw [hP] at hp1 hp2 hp3
   obtain ⟨m,hm⟩ : ∃ m,L2 = m + 2 := ⟨L2 - 2,by omega⟩
   have hPl : Lim P := by rw [← hP];exact (hL.out.lu.drop j).take _
   have hPg : ∀ i,i < L2 + 1 → P[i]? = us[j + i]? := fun i h => by
    subst hP
    rw [List.getElem?_take_of_lt h,List.getElem?_drop]
   have ht : ∀ p (hp : p < vs.length),p = K1 → 2147483648 ≤ vs[p] := fun p hp e => by subst e;exact hvt hp
   have hGs := guess_of hPl hvl (k := m) (by omega) (by omega) (ht (m + 1) (by omega) (by omega)) (by rw [hvv];exact hp2)
   have hcellu : ∀ i x,P[i]? = some x → ∀ p,p = j + i → wr.cell? ⟨g1,p,none⟩ = some (.int .u32 x) := fun i x hx p hp => by
    subst hp
    have hi := (List.getElem?_eq_some_iff.1 hx).1
    exact hAu.out.get (by rw [← hPg i (by omega)];exact hx)
   obtain ⟨bv,ov,rfl,-,-,hcv1,-,-⟩ := RU.at hrv (i := m + 1) (by omega)
   obtain ⟨bv',ov',e',-,-,hcv2,-,-⟩ := RU.at hrv (i := m) (by omega)
   simp only [Option.some.injEq,Addr.mk.injEq,and_true] at e'
   obtain ⟨rfl,rfl⟩ := e'
   have hd1 : ∀ p,p = ov + (m + 1) → wr.cell? ⟨bv,p,none⟩ = some (.int .u32 vs[m + 1]) := fun p hp => by subst hp;exact hcv1
   have hd2 : ∀ p,p = ov + m → wr.cell? ⟨bv,p,none⟩ = some (.int .u32 vs[m]) := fun p hp => by subst hp;exact hcv2
   have hGu := natGuess g1 j bv ov L2 (L2 + 1) L2 _ _ _ _ _ _ _ _ wr b4 (by omega) hGs (hPl.get _).2
    (hcellu (m + 2) _ (List.getElem?_eq_getElem _) _ (by omega)) (hcellu (m + 1) _ (List.getElem?_eq_getElem _) _ (by omega)) (hcellu m _ (List.getElem?_eq_getElem _) _ (by omega))
    (hd1 _ (by omega)) (hd2 _ (by omega))
   rw [hvv] at hGu
   have hne : ¬ g1 = g2 := hne12
   have hTk := fun W (hW : Below wr.heap.size wr W) q (hq0 : 0 ≤ q) (hq1 : q ≤ 4294967296) => natTakes (· = g2) g1 j L2 (L2 + 1) L2 (some ⟨bv,ov,none⟩) us vs q W (hAu.out.below hW) hL.out.lu hvn (by omega) (by omega) (hrv.below hW) hne hq0 hq1
   have hBk := fun W ds (hds : ds.length = L2 + 1) (hdl : Lim ds) (hA : Arr .u32 W g1 177 (us.take j ++ ds ++ us.drop (j + (L2 + 1)))) (hv : RU (· = g2) W (.slice (some ⟨bv,ov,none⟩) L2 L2) vs) => natBack (· = g2) g1 j L2 (L2 + 1) L2 (some ⟨bv,ov,none⟩) (us.take j ++ ds ++ us.drop (j + (L2 + 1))) vs W hA (Lim.append.2 ⟨Lim.append.2 ⟨hL.out.lu.take j,hdl⟩,hL.out.lu.drop _⟩) hvn (by rw [List.length_append,List.length_append,List.length_take,hds];omega) (by rw [List.length_append,List.length_append,List.length_take,List.length_drop,hds];omega) hv hne
   have hqj : (j : Int) < (K : Int) := by omega
   have hjq : j < qs.length := by omega
   have hqc : ∀ W,Arr .u32 W g3 177 qs → W.cell? ⟨g3,j,none⟩ = some (.int .u32 (qs[j]'hjq)) ∧ W.frozen? ⟨g3,j,none⟩ = false := fun W hW => ⟨hW.cell hjq,hW.frozen j⟩
   have hstep := fun p dg => hL.out.step (p := p) (d := dg) hVlt hVpos
   rw [hP] at hstep hTk
   have HTk := Lib.hid hTk;have HBk := Lib.hid hBk;have HGu := Lib.hid hGu;have Hqc := Lib.hid hqc;have Hstep := Lib.hid hstep
   have hPU : 0 ≤ val P := qaf hPl
   have HPU := Lib.hid (And.intro hPU hp2);have HVb := Lib.hid (And.intro hVlt hVpos)
   have hg1b : w.heap.size ≤ g1 := hg1
   clear hTk hBk hGu hqc hstep hPU hp1 hp2 hp3 hp4 hvl hvn hvv hvt hVlt hVpos hul hql hK1 hP hm hPl hPg ht hGs hcellu hcv1 hcv2 hd1 hd2
   go_wp2_with (go_at_call 246;refine HGu.out.mono ?_;rintro e w4 ⟨q,rfl,⟨hq0,hq1,hq2,hq3⟩,hb4⟩)
   refine (HTk.out w4 hb4 q hq0 hq1).mono ?_
   rintro e w5 ⟨b,ds,rfl,hb0,hb1',hdl,hdL,hde,hA5,hg5⟩
   have hgs5 := hg5.size
   have hl4 := hb4.size
   have hlr := hb.size
   have hg3b : w.heap.size ≤ g3 := by have := Hg3.out;omega
   have hn13 : g3 ≠ g1 := by omega
   have hq5 : Arr .u32 w5 g3 177 qs := (hAq.out.below hb4).grown hg5 (fun e => by cases e;exact hn13 rfl)
   have hv5 : RU (· = g2) w5 (.slice (some ⟨bv,ov,none⟩) L2 L2) vs := (hrv.below hb4).same (.of_grown hg5 (fun b hb e => by cases e;exact hne hb))
   have hb5 : Below w.heap.size w w5 := (hb.trans (hb4.mono hlr)).grown hg5 (by omega) (fun b e => by cases e;exact hg1b)
   have hdv0 := qaf hdL
   have hdv1 := val_lt hdL
   rw [hdl] at hdv1
   rw [Hvs.out.2.2.1] at hde
   have hb01 : b = 0 ∨ b = 1 := by omega
   rcases hb01 with rfl | rfl
   ·obtain ⟨s1, s2, s3⟩ := digit0 HVb.out.2 HPU.out.2 hq3 (by rw [hde]; omega) hdv0 hdv1
    have hst := Hstep.out ds q hdL hdl ⟨hq0,s1⟩ s2 s3
    obtain ⟨hc5,hf5⟩ := Hqc.out w5 hq5
    have hqm : q % 4294967296 = q := Int.emod_eq_of_lt hq0 s1
    have hfin : ∀ W,W = w5 → Arr .u32 (W.setCell ⟨g3,j,none⟩ (.int .u32 q)) g3 177 (qs.set j q) ∧ Arr .u32 (W.setCell ⟨g3,j,none⟩ (.int .u32 q)) g1 177 (us.take j ++ ds ++ us.drop (j + (L2 + 1))) ∧ RU (· = g2) (W.setCell ⟨g3,j,none⟩ (.int .u32 q)) (.slice (some ⟨bv,ov,none⟩) L2 L2) vs ∧ Below w.heap.size w (W.setCell ⟨g3,j,none⟩ (.int .u32 q)) := fun W e => by
     subst e
     exact ⟨hq5.set j q,hA5.other hn13 _,hv5.same ((Same.refl _ _).setCell (fun e => by have := Hg3.out;have e' : g3 = g2 := e;omega) _),hb5.setCell (p := ⟨g3,j,none⟩) hg3b _⟩
    have hlens : (us.take j ++ ds ++ us.drop (j + (L2 + 1))).length = M1 ∧ (qs.set j q).length = K := by
     have := hlen.out
     have := Hh.out
     have := Hh0.out
     rw [List.length_append,List.length_append,List.length_take,List.length_drop,List.length_set,hdl]
     omega
    have Hst2 := Lib.hid hst;have Hfin := Lib.hid hfin;have Hlens := Lib.hid hlens
    clear hst hfin hlens hde s2 hdl
    go_wp2
    obtain ⟨f1,f2,f3,f4⟩ := Hfin.out _ rfl
    exact ⟨⟨j,_,_,(by
     cases j with
     | zero => exact .inl ⟨rfl,by go_num⟩
     | succ j => exact .inr ⟨j,rfl,by go_num⟩),by omega,Hst2,Hlens,Lib.hid f2,Lib.hid f1,f3,f4⟩,by simp [intOf]⟩
   ·have hq1p : 1 ≤ q := by
     rcases Int.lt_or_le 0 q with h | h
     ·omega
     ·obtain rfl : q = 0 := by omega
      have := HPU.out.1
      rw [Int.zero_mul] at hde;omega
    have hwq := qa5 (x := q - 1) (by omega) (by omega)
    have HB2 := Lib.hid (HBk.out w5 ds hdl hdL hA5 hv5)
    have hqm : (q - 1) % 4294967296 = q - 1 := Int.emod_eq_of_lt (by omega) (by omega)
    have HQ6 := Lib.hid (show ∀ w6 : World,w5.grownBy w6 (some g1) → w6.cell? ⟨g3,j,none⟩ = some (.int .u32 (qs[j]'hjq)) ∧ w6.frozen? ⟨g3,j,none⟩ = false from fun w6 hg6 => Hqc.out w6 (hq5.grown hg6 (fun e => by cases e;exact hn13 rfl)))
    have Hde := Lib.hid hde;have Hdl := Lib.hid hdl
    clear hde hdl
    go_wp2_with (go_at_call 248;refine HB2.out.mono ?_;rintro e w6 ⟨c,ds2,⟨ue,rfl⟩,hdl2,hdL2,hde2,hA6,hg6⟩;obtain ⟨hc5,hf5⟩ := HQ6.out w6 hg6;have Hdl2 := Lib.hid hdl2;have Hde2 := Lib.hid hde2;have HA6 := Lib.hid hA6;clear hdl2 hde2 hA6)
    have hde := Hde.out;have hdl := Hdl.out;have hdl2 := Hdl2.out;have hde2 := Hde2.out;have hA6 := HA6.out
    have hgs6 := hg6.size
    have hq6 : Arr .u32 w6 g3 177 qs := hq5.grown hg6 (fun e => by cases e;exact hn13 rfl)
    have hv6 : RU (· = g2) w6 (.slice (some ⟨bv,ov,none⟩) L2 L2) vs := hv5.same (.of_grown hg6 (fun b hb e => by cases e;exact hne hb))
    have hb6 : Below w.heap.size w w6 := hb5.grown hg6 (by omega) (fun b e => by cases e;exact hg1b)
    have hjl : (us.take j).length = j := by have := hlen.out;have := Hh.out;have := Hh0.out;rw [List.length_take];omega
    have hsame : ((us.take j ++ ds ++ us.drop (j + (L2 + 1))).drop j).take (L2 + 1) = ds := by
     rw [List.append_assoc,List.drop_append_of_le_length (by omega),List.drop_of_length_le (by omega),List.nil_append,List.take_append_of_le_length (by omega),List.take_of_length_le (by omega)]
    have hsame2 : (us.take j ++ ds ++ us.drop (j + (L2 + 1))).take j ++ ds2 ++ (us.take j ++ ds ++ us.drop (j + (L2 + 1))).drop (j + (L2 + 1)) = us.take j ++ ds2 ++ us.drop (j + (L2 + 1)) := by
     have e1 : (us.take j ++ ds).length = j + (L2 + 1) := by rw [List.length_append,hjl,hdl]
     rw [List.append_assoc (us.take j) ds,List.take_append_of_le_length (by omega),List.take_of_length_le (l := us.take j) (by omega),← List.append_assoc (us.take j) ds,List.drop_append_of_le_length (by omega),List.drop_of_length_le (l := us.take j ++ ds) (by omega),List.nil_append]
    rw [hsame,Hvs.out.2.2.1] at hde2
    rw [hsame2] at hA6
    have hdv20 := qaf hdL2
    have hdv21 := val_lt hdL2
    rw [hdl2] at hdv21
    have hVp : V < pw (L2 + 1) := by have := HVb.out.1;rw [qal];have := pw_pos L2;omega
    obtain ⟨s1,s2,s3,s4⟩ := digit1 hVp HPU.out.1 hq0 hq1 hq2 (by rw [hde,Int.one_mul]) hdv1 hde2 hdv20 hdv21
    have hst := Hstep.out ds2 (q - 1) hdL2 hdl2 ⟨s1,s2⟩ s3 s4
    have hfin : ∀ W,W = w6 → Arr .u32 (W.setCell ⟨g3,j,none⟩ (.int .u32 (q - 1))) g3 177 (qs.set j (q - 1)) ∧ Arr .u32 (W.setCell ⟨g3,j,none⟩ (.int .u32 (q - 1))) g1 177 (us.take j ++ ds2 ++ us.drop (j + (L2 + 1))) ∧ RU (· = g2) (W.setCell ⟨g3,j,none⟩ (.int .u32 (q - 1))) (.slice (some ⟨bv,ov,none⟩) L2 L2) vs ∧ Below w.heap.size w (W.setCell ⟨g3,j,none⟩ (.int .u32 (q - 1))) := fun W e => by
     subst e
     exact ⟨hq6.set j _,hA6.other hn13 _,hv6.same ((Same.refl _ _).setCell (fun e => by have := Hg3.out;have e' : g3 = g2 := e;omega) _),hb6.setCell (p := ⟨g3,j,none⟩) hg3b _⟩
    have hlens : (us.take j ++ ds2 ++ us.drop (j + (L2 + 1))).length = M1 ∧ (qs.set j (q - 1)).length = K := by
     have := hlen.out
     have := Hh.out
     have := Hh0.out
     rw [List.length_append,List.length_append,List.length_take,List.length_drop,List.length_set,hdl2]
     omega
    have Hst2 := Lib.hid hst;have Hfin := Lib.hid hfin;have Hlens := Lib.hid hlens
    obtain ⟨f1,f2,f3,f4⟩ := Hfin.out _ rfl
    exact ⟨⟨j,_,_,(by
     cases j with
     | zero => exact .inl ⟨rfl,by go_num⟩
     | succ j => exact .inr ⟨j,rfl,by go_num⟩),by omega,Hst2,Hlens,Lib.hid f2,Lib.hid f1,f3,f4⟩,by simp [intOf]⟩
end

section
open Go Go.RowKit Go.Shelf Limb

theorem NumAt.zero (w : World) : NumAt w (.slice none 0 0) 0 := ⟨none,0,by rw [qaj];rfl,by rw [qaj];exact RSl.nil⟩
theorem cloneN (v : Value) (n : Nat) (w : World) (h : NumAt w v n) (hl : (lim n).length ≤ 100000) :
  Calls Tryz.prog 203 #[v] w fun e w' => ∃ a c,e = .returned (.slice a (lim n).length c) ∧ NumAt w' (.slice a (lim n).length c) n ∧ Below w.heap.size w w' :=
 (natClone Any v (lim n) w h.ru (by omega)).mono fun e w' ⟨a,c,he,hr,hb⟩ => ⟨a,c,he,NumAt.of hr,hb⟩
def DivGivesF (n d : Nat) (w : World) (e : Ending) (w' : World) : Prop := ∃ a c a' c',e = .returned (.tuple #[.slice a (lim (n / d)).length c,.slice a' (lim (n % d)).length c']) ∧ RU (From w.heap.size) w' (.slice a (lim (n / d)).length c) (lim (n / d)) ∧ NumAt w' (.slice a' (lim (n % d)).length c') (n % d) ∧ Below w.heap.size w w'
def DivGives (n d : Nat) (w : World) (e : Ending) (w' : World) : Prop := ∃ a c a' c',e = .returned (.tuple #[.slice a (lim (n / d)).length c,.slice a' (lim (n % d)).length c']) ∧ NumAt w' (.slice a (lim (n / d)).length c) (n / d) ∧ NumAt w' (.slice a' (lim (n % d)).length c') (n % d) ∧ Below w.heap.size w w'
set_option maxHeartbeats 1000000 in
theorem natDivideF (va vb : Value) (n d : Nat) (w : World) (ha : NumAt w va n) (hb : NumAt w vb d) (hla : (lim n).length ≤ 100000) (hd : 0 < d) :
  Calls Tryz.prog 204 #[va,vb] w (DivGivesF n d w) := by
 have hO := natOrder Any Any va vb n d w ha.ru hb.ru
 by_cases hlt : n < d
 ·have hc : cmpN n d = -1 := by rw [cmpN, if_pos hlt]
  rw [hc] at hO
  have hC := fun W (hW : Below w.heap.size w W) => cloneN va n W (ha.same hW) hla
  have hfin : ∀ w' a c,NumAt w' (.slice a (lim n).length c) n → Below w.heap.size w w' → DivGivesF n d w (.returned (.tuple #[.slice none 0 0,.slice a (lim n).length c])) w' := fun w' a c h hb => by
   refine ⟨none,0,a,c,?_,?_,?_,hb⟩
   ·rw [Nat.div_eq_of_lt hlt,Nat.mod_eq_of_lt hlt,qaj];rfl
   ·rw [Nat.div_eq_of_lt hlt,qaj];exact RSl.nil
   ·rw [Nat.mod_eq_of_lt hlt];exact h
  obtain ⟨a1,c1,rfl⟩ := ha.shape
  obtain ⟨a2,c2,rfl⟩ := hb.shape
  have HO := Lib.hid hO;have HC := Lib.hid hC;have HF := Lib.hid hfin
  clear hO hC hfin hc
  go_enter Tryz.func204,Tryz.ntmps204
  go_wp2_with (first
   | (go_at_call 170;refine HO.out.mono ?_;rintro e w1 ⟨rfl,hb1⟩;have hl1 := hb1.size)
   | (go_at_call 203;refine (HC.out _ hb1).mono ?_;rintro e w2 ⟨a3,c3,rfl,hN,hb2⟩;have HN := Lib.hid hN;clear hN))
  go_ret2
  exact HF.out _ _ _ HN.out (hb1.trans (hb2.mono hl1))
 obtain ⟨cc,hcc⟩ : ∃ cc,cmpN n d = cc := ⟨_,rfl⟩
 have hc0 : ¬ cc < 0 := by rw [← hcc,cmpN,if_neg hlt];split <;> omega
 rw [hcc] at hO
 by_cases h1 : (lim d).length = 1
 ·have hd1 : d < 4294967296 := by
   have := lt_of_lim d
   rw [h1,qal,pw_zero] at this
   omega
  have hld : lim d = [(d : Int)] := lim_small (by omega) hd1
  have hbr := hb.ru
  obtain ⟨a2,c2,rfl⟩ := hb.shape
  obtain ⟨bb,off,rfl,-,-,hcb,-,-⟩ := RU.at hbr (i := 0) (by omega)
  simp only [hld,List.getElem_cons_zero,Nat.add_zero] at hcb
  have hcb' : ∀ W,Below w.heap.size w W → W.cell? ⟨bb,off,none⟩ = some (.int .u32 d) := fun W hW => cell_later hW hcb
  have hS := fun W (hW : Below w.heap.size w W) => natSmallF va n d W (ha.same hW) (by omega) ⟨hd,hd1⟩
  have hT : ∀ W : World,Calls Tryz.prog 165 #[.slice (some ⟨W.heap.size,0,none⟩) 1 1] (W.alloc (.cells #[.int .u32 (n % d : Nat)] 177)) fun e w' => ∃ a c,e = .returned (.slice a (lim (n % d)).length c) ∧ NumAt (W.alloc (.cells #[.int .u32 (n % d : Nat)] 177)) (.slice a (lim (n % d)).length c) (n % d) ∧ W.alloc (.cells #[.int .u32 (n % d : Nat)] 177) = w' := fun W => by
   have hm : n % d < 4294967296 := Nat.lt_trans (Nat.mod_lt n hd) hd1
   have hA : Arr .u32 (W.alloc (.cells #[.int .u32 (n % d : Nat)] 177)) W.heap.size 177 [((n % d : Nat) : Int)] := qa8 W _
   exact trimN (hA.all (S := Any) trivial (fun x hx => wf_u32.2 (by simp at hx;omega)) (by simp) rfl (Nat.le_refl _)) (by simp [val])
  obtain ⟨a1,c1,rfl⟩ := ha.shape
  rw [h1] at hO ⊢
  have HO := Lib.hid hO;have HS := Lib.hid hS;have HT := Lib.hid hT;have Hcb := Lib.hid hcb'
  clear hO hS hT hcb' hcc h1 hld
  go_enter Tryz.func204,Tryz.ntmps204
  go_wp2_with (first
   | (go_at_call 170;refine HO.out.mono ?_;rintro e w1 ⟨rfl,hb1⟩;have hl1 := hb1.size;have hcb1 := Hcb.out _ hb1)
   | (go_at_call 234;refine (HS.out _ hb1).mono ?_;rintro e w2 ⟨a3,c3,rfl,hN,hb2⟩;have hl2 := hb2.size;have HN := Lib.hid hN;clear hN)
   | (go_at_call 165;refine (HT.out _).mono ?_;rintro e w3 ⟨a4,c4,rfl,hN4,rfl⟩;have HN4 := Lib.hid hN4;clear hN4))
  go_ret2
  exact ⟨a3,c3,a4,c4,rfl,RSl.mono (fun _ _ _ h => h) (fun b hb => Nat.le_trans hl1 hb) (HN.out.below (qa1 _ _)),HN4.out,(hb1.trans (hb2.mono hl1)).alloc (by omega) _⟩
 ·have hL2 : 2 ≤ (lim d).length := by
   have : (lim d).length ≠ 0 := fun e => by
    have := qad.1 (List.eq_nil_of_length_eq_zero e)
    omega
   omega
  have hle : (lim d).length ≤ (lim n).length := qb4 (by omega)
  have hLg := fun W (hW : Below w.heap.size w W) => natLongF va vb n d W (ha.same hW) (hb.same hW) hla hL2 hle
  obtain ⟨a1,c1,rfl⟩ := ha.shape
  obtain ⟨a2,c2,rfl⟩ := hb.shape
  have hn1 : (((lim d).length : Int) == 1) = false := beq_eq_false_iff_ne.2 (by omega)
  have HO := Lib.hid hO;have HL := Lib.hid hLg
  clear hO hLg hcc
  go_enter Tryz.func204,Tryz.ntmps204
  go_wp2_with (first
   | (go_at_call 170;refine HO.out.mono ?_;rintro e w1 ⟨rfl,hb1⟩;have hl1 := hb1.size)
   | (go_at_call 235;refine (HL.out _ hb1).mono ?_;rintro e w2 ⟨a3,c3,a4,c4,rfl,hN,hN4,hb2⟩;have HN := Lib.hid hN;have HN4 := Lib.hid hN4;clear hN hN4))
  go_ret2
  exact ⟨a3,c3,a4,c4,rfl,RSl.mono (fun _ _ _ h => h) (fun b hb => Nat.le_trans hl1 hb) HN.out,HN4.out,hb1.trans (hb2.mono hl1)⟩
theorem natDivide (va vb : Value) (n d : Nat) (w : World) (ha : NumAt w va n) (hb : NumAt w vb d) (hla : (lim n).length ≤ 100000) (hd : 0 < d) :
  Calls Tryz.prog 204 #[va,vb] w (DivGives n d w) :=
 (natDivideF va vb n d w ha hb hla hd).mono fun _ _ ⟨a,c,a',c',he,h1,h2,h3⟩ => ⟨a,c,a',c',he,NumAt.of h1,h2,h3⟩
set_option maxHeartbeats 1000000 in
theorem natDivF (va vb : Value) (n d : Nat) (w : World) (ha : NumAt w va n) (hb : NumAt w vb d) (hla : (lim n).length ≤ 96) (hlb : (lim d).length ≤ 96) (hd : 0 < d) :
  Calls Tryz.prog 178 #[va,vb] w fun e w' => ∃ a c a' c',e = .returned (.tuple #[.slice a (lim (n / d)).length c,.slice a' (lim (n % d)).length c',.int .i64 0]) ∧ RU (From w.heap.size) w' (.slice a (lim (n / d)).length c) (lim (n / d)) ∧ NumAt w' (.slice a' (lim (n % d)).length c') (n % d) ∧ Below w.heap.size w w' := by
 have hB := natBoth Any Any va vb _ _ w ha.ru hb.ru
 rw [chkNN,qb1 hla,qb1 hlb] at hB
 simp only [ne_eq,not_true_eq_false,if_false] at hB
 have hD := natDivideF va vb n d w ha hb (by omega) hd
 obtain ⟨a1,c1,rfl⟩ := ha.shape
 obtain ⟨a2,c2,rfl⟩ := hb.shape
 have hn0 : ¬ ((lim d).length : Int) = 0 := fun e => by
  have := qad.1 (List.eq_nil_of_length_eq_zero (by omega : (lim d).length = 0))
  omega
 have hn1 : (((lim d).length : Int) == 0) = false := beq_eq_false_iff_ne.2 hn0
 have HB := Lib.hid hB;have HD := Lib.hid hD
 clear hB hD
 go_enter Tryz.func178,Tryz.ntmps178
 go_wp2_with (first
  | (go_at_call 169;refine HB.out.mono ?_;rintro e w1 ⟨rfl,rfl⟩)
  | (go_at_call 204;refine HD.out.mono ?_;rintro e w2 ⟨a3,c3,a4,c4,rfl,hN,hN4,hb2⟩;have HN := Lib.hid hN;have HN4 := Lib.hid hN4;clear hN hN4))
 go_ret3
 exact ⟨a3,c3,a4,c4,rfl,HN.out,HN4.out,hb2⟩
theorem RU.inj {S T : Nat → Prop} {w : World} {v : Value} {xs ys : List Int} (h : RU S w v xs) (k : RU T w v ys) : xs = ys := by
 obtain ⟨a,c,rfl,-,-⟩ := RSl.shape h
 obtain ⟨a',c',e,-,-⟩ := RSl.shape k
 simp only [Value.slice.injEq] at e
 obtain ⟨rfl,hl,rfl⟩ := e
 rw [hl] at h
 apply List.ext_getElem hl
 intro i h1 h2
 obtain ⟨b,off,e1,-,-,hc,-,-⟩ := RU.at h h1
 obtain ⟨b',off',e2,-,-,hc',-,-⟩ := RU.at k h2
 rw [e1] at e2
 simp only [Option.some.injEq,Addr.mk.injEq,and_true] at e2
 obtain ⟨rfl,rfl⟩ := e2
 rw [hc] at hc'
 simpa using hc'
noncomputable def numOf (w : World) (v : Value) : Nat := @Classical.epsilon Nat ⟨0⟩ (fun n => NumAt w v n)
theorem qbc {w : World} {v : Value} {n : Nat} (h : NumAt w v n) : numOf w v = n := by
 have h1 : NumAt w v (numOf w v) := Classical.epsilon_spec (p := fun n => NumAt w v n) ⟨n,h⟩
 exact lim_inj (RU.inj h1.ru h.ru)
theorem lim_le_of {m n k : Nat} (h : m ≤ n) (hn : (lim n).length ≤ k) : (lim m).length ≤ k := Nat.le_trans (qb4 h) hn
set_option maxHeartbeats 1000000 in
theorem natGcd (va vb : Value) (n d : Nat) (w : World) (ha : NumAt w va n) (hb : NumAt w vb d) (hla : (lim n).length ≤ 96) (hlb : (lim d).length ≤ 96) :
  Calls Tryz.prog 167 #[va,vb] w fun e w' => ∃ a c,e = .returned (.tuple #[.slice a (lim (Nat.gcd n d)).length c,.int .i64 0]) ∧ NumAt w' (.slice a (lim (Nat.gcd n d)).length c) (Nat.gcd n d) ∧ Below w.heap.size w w' := by
 have hB := natBoth Any Any va vb _ _ w ha.ru hb.ru
 rw [chkNN,qb1 hla,qb1 hlb] at hB
 simp only [ne_eq,not_true_eq_false,if_false] at hB
 have hC := cloneN va n w ha (by omega)
 obtain ⟨a1,c1,rfl⟩ := ha.shape
 obtain ⟨a2,c2,rfl⟩ := hb.shape
 have HB := Lib.hid hB;have HC := Lib.hid hC;have Hhb := Lib.hid hb
 clear hB hC
 go_enter Tryz.func167,Tryz.ntmps167
 go_wp2_with (first
  | (go_at_call 169;refine HB.out.mono ?_;rintro e w1 ⟨rfl,rfl⟩)
  | (go_at_call 203;refine HC.out.mono ?_;rintro e w2 ⟨a3,c3,rfl,hN,hb2⟩;have hl2 := hb2.size;have HN := Lib.hid hN;clear hN))
 go_loopw [0,1] (fun av bv wr => ∃ x y : Nat,Hid (NumAt wr av x) ∧ Hid (NumAt wr bv y) ∧ Hid (Nat.gcd x y = Nat.gcd n d) ∧ (lim x).length ≤ 96 ∧ (lim y).length ≤ 96 ∧ Below w.heap.size w wr) (fun _ bv wr => numOf wr bv)
 case atStart => exact ⟨n,d,HN,Lib.hid (Hhb.out.same hb2),Lib.hid rfl,hla,hlb,hb2⟩
 case round =>
  obtain ⟨x,y,hx,hy,hg,hlx,hly,hbr⟩ := hrel
  obtain ⟨a4,c4,rfl⟩ := hx.out.shape
  obtain ⟨a5,c5,rfl⟩ := hy.out.shape
  have hlr := hbr.size
  by_cases hy0 : y = 0
  ·subst hy0
   have hxg : x = Nat.gcd n d := by rw [← hg.out,Nat.gcd_zero_right]
   have hl0 : (lim 0).length = 0 := by rw [qaj];rfl
   have hC := cloneN _ x wr hx.out (by omega)
   rw [hxg] at hC
   have HC := Lib.hid hC;have Hxg := Lib.hid hxg
   clear hC hxg
   rw [hl0]
   go_wp2_with (go_at_call 203;have hC := HC.out;rw [← Hxg.out] at hC;refine hC.mono ?_;rintro e w4 ⟨a6,c6,rfl,hN6,hb6⟩;have HN6 := Lib.hid hN6;clear hN6 hC)
   go_ret2
   have hN6 := HN6.out
   have hxg := Hxg.out
   subst hxg
   exact ⟨a6,c6,rfl,hN6,hbr.trans (hb6.mono hlr)⟩
  ·have hD := natDivide _ _ x y wr hx.out hy.out (by omega) (by omega)
   have hyl : (0 : Int) < ((lim y).length : Int) := by
    have : (lim y).length ≠ 0 := fun e => hy0 (qad.1 (List.eq_nil_of_length_eq_zero e))
    omega
   have hyl2 : ¬ lim y = [] := fun e => hy0 (qad.1 e)
   have hmod : x % y < y := Nat.mod_lt _ (by omega)
   have hlm := lim_le_of (Nat.le_of_lt hmod) hly
   have hg2 : Nat.gcd y (x % y) = Nat.gcd n d := by rw [← hg.out,Nat.gcd_comm y,← Nat.gcd_rec,Nat.gcd_comm]
   have hny := qbc hy.out
   have HD := Lib.hid hD;have Hg2 := Lib.hid hg2;have Hny := Lib.hid hny
   clear hD hg2 hny
   go_wp2_with (go_at_call 204;refine HD.out.mono ?_;rintro e w4 ⟨a6,c6,a7,c7,rfl,hN6,hN7,hb6⟩;have HN7 := Lib.hid hN7;clear hN6 hN7)
   refine ⟨⟨y,x % y,Lib.hid (hy.out.same hb6),HN7,Hg2,hly,hlm,hbr.trans (hb6.mono hlr)⟩,?_⟩
   have h7 := qbc HN7.out
   have h5 := Hny.out
   show numOf w4 (.slice a7 (lim (x % y)).length c7) < numOf wr (.slice a5 (lim y).length c5)
   rw [h7,h5]
   exact hmod
end

section
open Go Go.RowKit Go.Shelf Limb

set_option maxHeartbeats 1000000 in
theorem natOf (n : Nat) (w : World) (hn : n < 18446744073709551616) :
  Calls Tryz.prog 103 #[.int .u64 n] w fun e w' => ∃ a c,e = .returned (.slice a (lim n).length c) ∧ NumAt w' (.slice a (lim n).length c) n ∧ Below w.heap.size w w' := by
 have hT : Calls Tryz.prog 165 #[.slice (some ⟨w.heap.size,0,none⟩) 2 2] (w.alloc (.cells #[.int .u32 ((n : Int) % 4294967296),.int .u32 ((n : Int) / 4294967296)] 177)) fun e w' => ∃ a c,e = .returned (.slice a (lim n).length c) ∧ NumAt (w.alloc (.cells #[.int .u32 ((n : Int) % 4294967296),.int .u32 ((n : Int) / 4294967296)] 177)) (.slice a (lim n).length c) n ∧ (w.alloc (.cells #[.int .u32 ((n : Int) % 4294967296),.int .u32 ((n : Int) / 4294967296)] 177)) = w' := by
  have hA : Arr .u32 (w.alloc (.cells #[.int .u32 ((n : Int) % 4294967296),.int .u32 ((n : Int) / 4294967296)] 177)) w.heap.size 177 [(n : Int) % 4294967296,(n : Int) / 4294967296] := qa8 w _
  exact trimN (hA.all (S := Any) trivial (fun x hx => wf_u32.2 (by simp at hx;omega)) (by simp) rfl (Nat.le_refl _)) (by simp [val];omega)
 have hq : (n : Int) / 4294967296 % 4294967296 = (n : Int) / 4294967296 := by omega
 have HT := Lib.hid hT
 clear hT
 go_enter Tryz.func103,Tryz.ntmps103
 go_wp2_with (go_at_call 165;refine HT.out.mono ?_;rintro e w1 ⟨a1,c1,rfl,hN,rfl⟩;have HN := Lib.hid hN;clear hN)
 go_ret
 exact ⟨a1,c1,rfl,HN.out,qa1 _ _⟩
set_option maxHeartbeats 1000000 in
theorem natSame (S T : Nat → Prop) (u v : Value) (xs ys : List Int) (w : World) (hx : RU S w u xs) (hy : RU T w v ys) :
  Calls Tryz.prog 168 #[u,v] w fun e w' => e = .returned (.bool (eqL eqInt xs ys)) ∧ Below w.heap.size w w' := by
 have hE := natEqual S T u v xs ys w hx hy
 obtain ⟨a1,c1,rfl,-,-⟩ := RSl.shape hx
 obtain ⟨a2,c2,rfl,-,-⟩ := RSl.shape hy
 have HE := Lib.hid hE
 clear hE
 go_enter Tryz.func168,Tryz.ntmps168
 go_wp2_with (go_at_call 205;refine HE.out.mono ?_;rintro e w1 ⟨rfl,hb1⟩)
 go_ret
 exact ⟨rfl,hb1⟩
theorem times_step (c x n u : Int) (hc0 : 0 ≤ c) (hc1 : c < 4294967296) (hx0 : 0 ≤ x) (hx1 : x < 4294967296) (hn0 : 0 ≤ n) (hn1 : n < 4294967296) (hu0 : 0 ≤ u) (hu1 : u < 4294967296) :
  0 ≤ x * n ∧ x * n < 18446744073709551616 ∧ x * n + u < 18446744073709551616 ∧ c + (x * n + u) < 18446744073709551616 ∧ (c + (x * n + u)) / 4294967296 < 4294967296 := by
 have h0 : 0 ≤ x * n := Int.mul_nonneg hx0 hn0
 have h1 : x * n ≤ 4294967295 * 4294967295 := Int.mul_le_mul (by omega) (by omega) hn0 (by omega)
 generalize x * n = m at *
 omega
set_option maxHeartbeats 2000000 in
set_option maxRecDepth 100000 in
theorem natTimes (S : Nat → Prop) (g j L M cu cv : Nat) (a : Option Addr) (us xs : List Int) (n : Int) (w : World) (hA : Arr .u32 w g 177 us) (hlu : Lim us) (hL : xs.length = L) (hj : j + (L + 1) ≤ us.length) (hu : us.length ≤ 1000000) (hM : L + 1 ≤ M)
  (hv : RU S w (.slice a L cv) xs) (hS : ¬ S g) (hn0 : 0 ≤ n) (hn1 : n < 4294967296) (hz : us[j + L]? = some 0) :
  Calls Tryz.prog 201 #[.slice (some ⟨g,j,none⟩) M cu,.slice a L cv,.int .u32 n] w
   fun e w' => ∃ ds : List Int,(∃ u,e = .returned u) ∧ ds.length = L + 1 ∧ Lim ds ∧ val ((us.drop j).take (L + 1)) + val xs * n = val ds ∧
    Arr .u32 w' g 177 (us.take j ++ ds ++ us.drop (j + (L + 1))) ∧ w.grownBy w' (some g) := by
 have hLl : L ≤ 1000000 := by omega
 have hLM : (L : Int) < (M : Int) := by omega
 have HL := Lib.hid hL;have Hj := Lib.hid hj;have Hu := Lib.hid hlu;have Hz := Lib.hid hz
 have hll : us.length ≤ 1000000 := hu
 have hnw := qa5 hn0 (by omega)
 clear hL hj hlu hu hz
 go_enter Tryz.func201,Tryz.ntmps201
 go_wp2
 go_loopw [6,11] (fun cvv iv wr => ∃ (i : Nat) (c : Int) (ds : List Int),iv = .int .i64 i ∧ cvv = .int .u64 c ∧ i ≤ L ∧ 0 ≤ c ∧ c < 4294967296 ∧ Hid (ds.length = i ∧ Lim ds ∧ val ((us.drop j).take i) + val (xs.take i) * n = val ds + c * pw i) ∧ Hid (Arr .u32 wr g 177 (us.take j ++ ds ++ us.drop (j + i))) ∧ w.grownBy wr (some g)) (fun _ iv _ => L - (intOf iv).toNat)
 case atStart =>
  exact ⟨0,0,[],rfl,rfl,Nat.zero_le _,by omega,by omega,Lib.hid ⟨rfl,Lim.nil,by simp [val]⟩,Lib.hid (by simpa using hA),gb_refl _ _⟩
 case round =>
  obtain ⟨i,c,ds,rfl,rfl,hi,hc0,hc1,hd,hAr,hgr⟩ := hrel
  have hvr : RU S wr (.slice a L cv) xs := hv.same (.of_grown hgr (fun b hb e => by cases e;exact hS hb))
  have hjl : j + i < us.length := by have := Hj.out;omega
  obtain ⟨hd1,hd2,hd3⟩ := hd.out
  have hcu : wr.cell? ⟨g,j + i,none⟩ = some (.int .u32 us[j + i]) := hAr.out.get (splice_get hd1 hjl)
  have hfu : wr.frozen? ⟨g,j + i,none⟩ = false := hAr.out.frozen _
  obtain ⟨hu0,hu1⟩ := Hu.out.get hjl
  have hset : ∀ D W,W = wr → Arr .u32 (W.setCell ⟨g,j + i,none⟩ (.int .u32 D)) g 177 (us.take j ++ (ds ++ [D]) ++ us.drop (j + (i + 1))) := fun D W e => by
   subst e
   rw [← splice_set hd1 hjl D]
   exact hAr.out.set _ _
  by_cases hlt : i < L
  ·have hvl : i < xs.length := by have := HL.out; omega
   obtain ⟨b2,off2,rfl,-,-,hcv,hx0,hx1⟩ := RU.at hvr hvl
   obtain ⟨t1,t2,t3,t4,t5⟩ := times_step c xs[i] n us[j + i] hc0 hc1 hx0 hx1 hn0 hn1 hu0 hu1
   have w1 := qa5 hx0 (by omega)
   have w2 := qa5 hu0 (by omega)
   have w3 := qa5 t1 t2
   have w4 := qa5 (x := xs[i] * n + us[j + i]) (by omega) t3
   have w5 := qa5 (x := c + (xs[i] * n + us[j + i])) (by omega) t4
   have hfin : (ds ++ [(c + (xs[i] * n + us[j + i])) % 4294967296]).length = i + 1 ∧ Lim (ds ++ [(c + (xs[i] * n + us[j + i])) % 4294967296]) ∧ val ((us.drop j).take (i + 1)) + val (xs.take (i + 1)) * n = val (ds ++ [(c + (xs[i] * n + us[j + i])) % 4294967296]) + (c + (xs[i] * n + us[j + i])) / 4294967296 * pw (i + 1) := by
    refine ⟨by rw [List.length_append,hd1];rfl,Lim.append.2 ⟨hd2,Lim.cons.2 ⟨⟨Int.emod_nonneg _ (by omega),Int.emod_lt_of_pos _ (by omega)⟩,Lim.nil⟩⟩,?_⟩
    have e4 := Int.mul_ediv_add_emod (c + (xs[i] * n + us[j + i])) 4294967296
    rw [part_val hjl,qaq hvl,val_snoc,hd1,qal]
    generalize (c + (xs[i] * n + us[j + i])) / 4294967296 = c' at *
    generalize (c + (xs[i] * n + us[j + i])) % 4294967296 = D at *
    have e2 : val ((us.drop j).take i) = val ds + c * pw i - val (xs.take i) * n := by omega
    rw [e2]
    have e3 : us[j + i] = 4294967296 * c' + D - c - xs[i] * n := by omega
    rw [e3]
    grind
   have hc2 : 0 ≤ (c + (xs[i] * n + us[j + i])) / 4294967296 := Int.ediv_nonneg (by omega) (by omega)
   have hiM : (i : Int) < (M : Int) := by omega
   have hiL : (i : Int) < (L : Int) := by omega
   have Hfin := Lib.hid hfin;have Hset := Lib.hid (hset ((c + (xs[i] * n + us[j + i])) % 4294967296))
   clear hfin hset hd1 hd2 hd3
   go_wp2
   exact ⟨⟨i + 1,_,_,by go_num,rfl,by omega,hc2,t5,Hfin,Lib.hid (Hset.out _ rfl),gb_trans hgr (gb_setCell wr g (j + i) _)⟩,by simp [intOf];omega⟩
  ·have hiL : i = L := by omega
   subst hiL
   have hz' := Hz.out
   rw [List.getElem?_eq_getElem hjl] at hz'
   have hu00 := Option.some.inj hz'
   have hcm : c % 4294967296 = c := Int.emod_eq_of_lt hc0 hc1
   have hfin : (ds ++ [c]).length = i + 1 ∧ Lim (ds ++ [c]) ∧ val ((us.drop j).take (i + 1)) + val xs * n = val (ds ++ [c]) := by
    refine ⟨by rw [List.length_append,hd1];rfl,Lim.append.2 ⟨hd2,Lim.cons.2 ⟨⟨hc0,hc1⟩,Lim.nil⟩⟩,?_⟩
    rw [List.take_of_length_le (Nat.le_of_eq HL.out)] at hd3
    rw [part_val hjl,val_snoc,hd1,hu00]
    have e : pw i * c = c * pw i := Int.mul_comm _ _
    omega
   rw [hu00] at hcu
   have hcm0 : (0 + c) % 4294967296 = c := by rw [Int.zero_add];exact hcm
   have Hfin := Lib.hid hfin;have Hset := Lib.hid (hset c)
   clear hfin hset hd1 hd2 hd3 hu00
   go_wp2
   go_end0
   exact ⟨ds ++ [c],⟨_,rfl⟩,Hfin.out.1,Hfin.out.2.1,Hfin.out.2.2,Hset.out _ rfl,gb_trans hgr (gb_setCell wr g (j + i) _)⟩
end

section
open Go Go.RowKit Go.Shelf Limb

def FitGives (n : Nat) (w : World) (e : Ending) (w' : World) : Prop :=
 ((lim n).length ≤ 96 → ∃ a c,e = .returned (.tuple #[.slice a (lim n).length c,.int .i64 0]) ∧ NumAt w' (.slice a (lim n).length c) n) ∧ (96 < (lim n).length → e = .returned (.tuple #[.slice none 0 0,.int .i64 30])) ∧ Below w.heap.size w w'
set_option maxHeartbeats 1000000 in
theorem natFits (S : Nat → Prop) (v : Value) (xs : List Int) (n : Nat) (w : World) (h : RU S w v xs) (hn : val xs = n) :
  Calls Tryz.prog 202 #[v] w (FitGives n w) := by
 have hT := trimN h hn
 obtain ⟨a,cap,rfl,h1,h2⟩ := RSl.shape h
 have HT := Lib.hid hT
 clear hT h hn
 by_cases hl : (lim n).length ≤ 96
 ·go_enter Tryz.func202, Tryz.ntmps202
  go_wp2_with (go_at_call 165;refine HT.out.mono ?_;rintro e w1 ⟨a1,c1,rfl,hN,rfl⟩;have HN := Lib.hid hN;clear hN)
  go_ret2
  exact ⟨fun _ => ⟨a1,c1,rfl,HN.out⟩,fun h => by omega,Below.refl _ _⟩
 ·have hl' : (96 : Int) < ((lim n).length : Int) := by omega
  go_enter Tryz.func202,Tryz.ntmps202
  go_wp2_with (go_at_call 165;refine HT.out.mono ?_;rintro e w1 ⟨a1,c1,rfl,hN,rfl⟩;have HN := Lib.hid hN;clear hN)
  go_ret2
  exact ⟨fun h => by omega,fun _ => rfl,Below.refl _ _⟩
set_option maxHeartbeats 2000000 in
set_option maxRecDepth 100000 in
theorem natMul (va vb : Value) (m n : Nat) (w : World) (ha : NumAt w va m) (hb : NumAt w vb n) (hla : (lim m).length ≤ 96) (hlb : (lim n).length ≤ 96) :
  Calls Tryz.prog 163 #[va,vb] w (FitGives (m * n) w) := by
 have hB := natBoth Any Any va vb _ _ w ha.ru hb.ru
 rw [chkNN,qb1 hla,qb1 hlb] at hB
 simp only [ne_eq,not_true_eq_false,if_false] at hB
 have hra : RU (Cut Any w.heap.size) w va (lim m) := RSl.cut (by omega) (fun _ _ h => h) ha.ru
 have hrb : RU (Cut Any w.heap.size) w vb (lim n) := RSl.cut (by omega) (fun _ _ h => h) hb.ru
 obtain ⟨a1,c1,rfl⟩ := ha.shape
 obtain ⟨a2,c2,rfl⟩ := hb.shape
 obtain ⟨xs,hxs⟩ : ∃ xs,lim m = xs := ⟨_,rfl⟩
 obtain ⟨ys,hys⟩ : ∃ ys,lim n = ys := ⟨_,rfl⟩
 have hvx : val xs = (m : Int) := by rw [← hxs,qap]
 have hvy : val ys = (n : Int) := by rw [← hys,qap]
 have hlx : Lim xs := by rw [← hxs];exact lim_Lim m
 have hly : Lim ys := by rw [← hys];exact lim_Lim n
 rw [hxs] at hra hB hla ⊢
 rw [hys] at hrb hB hlb ⊢
 obtain ⟨La,hLa⟩ : ∃ La,xs.length = La := ⟨_,rfl⟩
 obtain ⟨Lb,hLb⟩ : ∃ Lb,ys.length = Lb := ⟨_,rfl⟩
 rw [hLa] at hra hB hla ⊢
 rw [hLb] at hrb hB hlb ⊢
 obtain ⟨M0,hM0⟩ : ∃ M0,La + Lb = M0 := ⟨_,rfl⟩
 obtain ⟨M,hM⟩ : ∃ M,M0 + 1 = M := ⟨_,rfl⟩
 have q1 : (La : Int) + (Lb : Int) = (M0 : Int) := by omega
 have q2 : (M0 : Int) + 1 = (M : Int) := by omega
 have q3 := qbb (x := (M0 : Int)) (by omega) (by omega)
 have q4 := qbb (x := (M : Int)) (by omega) (by omega)
 have hMb : M ≤ 200 := by omega
 have hLM : Lb < M := by omega
 have hmk := run_make_row' (P := Tryz.prog) 54 177 (.int .u32 0) 4 Tryz.underlying54 Tryz.infoU32 rfl .i64 .i64 M (by omega) (by omega)
 have hA0 := Arr.madeN (k := .u32) w M 177
 have hb0 := qa1 w (.cells (madeCells #[.int .u32 0] M) 177)
 have hS : ¬ Cut Any w.heap.size w.heap.size := fun h => Nat.lt_irrefl _ h.2
 have HB := Lib.hid hB;have Hx := Lib.hid (And.intro hvx (And.intro hlx hLa));have Hy := Lib.hid (And.intro hvy (And.intro hly hLb));have HMM := Lib.hid (And.intro hM0 hM)
 clear hB hvx hvy hlx hly hLa hLb hxs hys hM0 hM ha hb
 go_enter Tryz.func163,Tryz.ntmps163
 go_wp2_with (go_at_call 169;refine HB.out.mono ?_;rintro e w1 ⟨rfl,rfl⟩)
 go_loopw [25] (fun iv wr => ∃ (i : Nat) (us : List Int),iv = .int .i64 i ∧ i ≤ Lb ∧ Hid (us.length = M ∧ Lim us ∧ val us = m * val (ys.take i)) ∧ Hid (Arr .u32 wr w.heap.size 177 us) ∧ Below w.heap.size w wr) (fun iv _ => Lb - (intOf iv).toNat)
 case atStart => exact ⟨0,_,rfl,Nat.zero_le _,Lib.hid ⟨by simp,Lim.zeros M,by rw [val_zeros];simp [val]⟩,Lib.hid hA0,hb0⟩
 case round =>
  obtain ⟨i,us,rfl,hi,hd,hAr,hb⟩ := hrel
  obtain ⟨hd1,hd2,hd3⟩ := hd.out
  have hrbr : RU (Cut Any w.heap.size) wr (.slice a2 Lb c2) ys := hrb.same (fun b _ hS => hb.block b hS.2)
  have hrar : RU (Cut Any w.heap.size) wr (.slice a1 La c1) xs := hra.same (fun b _ hS => hb.block b hS.2)
  by_cases hlt : i < Lb
  ·have hM0 := HMM.out
   have hyl : i < ys.length := by have := Hy.out.2.2;omega
   obtain ⟨b2,off2,rfl,-,-,hcv,hy0,hy1⟩ := RU.at hrbr hyl
   have hti : (ys.take i).length = i := by rw [List.length_take];omega
   have hvt0 := qaf (Hy.out.2.1.take i)
   have hvt := val_lt (Hy.out.2.1.take i)
   rw [hti] at hvt
   have hux : val us < pw (i + La) := by
    rw [hd3,pw_add]
    have h1 := val_lt Hx.out.2.1
    rw [Hx.out.1,Hx.out.2.2] at h1
    have h2 := Int.mul_le_mul_of_nonneg_left (show val (ys.take i) ≤ pw i by omega) (show (0 : Int) ≤ (m : Int) by omega)
    have h3 := mul_lt (pw_pos i) h1
    have e : pw i * pw La = pw La * pw i := Int.mul_comm _ _
    omega
   have hzz := top_zero hd2 (by omega : i + La < us.length) hux
   have hT := natTimes (Cut Any w.heap.size) w.heap.size i La (M - i) (M - i) c1 a1 us xs ys[i] wr hAr.out hd2 Hx.out.2.2 (by omega) (by omega) (by omega) hrar hS hy0 hy1 (by rw [List.getElem?_eq_getElem (by omega),hzz.1])
   have hfin : ∀ ds : List Int,ds.length = La + 1 → Lim ds → val ((us.drop i).take (La + 1)) + val xs * ys[i] = val ds → (us.take i ++ ds ++ us.drop (i + (La + 1))).length = M ∧ Lim (us.take i ++ ds ++ us.drop (i + (La + 1))) ∧ val (us.take i ++ ds ++ us.drop (i + (La + 1))) = m * val (ys.take (i + 1)) := fun ds h1 h2 h3 => by
    refine ⟨by rw [List.length_append,List.length_append,List.length_take,List.length_drop];omega,Lim.append.2 ⟨Lim.append.2 ⟨hd2.take i,h2⟩,hd2.drop _⟩,?_⟩
    have e1 := qao us i (by omega)
    have e2 := qao (us.drop i) (La + 1) (by rw [List.length_drop];omega)
    rw [List.drop_drop] at e2
    rw [val_append,val_append,List.length_append,List.length_take,Nat.min_eq_left (by omega),h1,pw_add,qaq hyl]
    rw [Hx.out.1] at h3
    have e3 : (m : Int) * (val (ys.take i) + pw i * ys[i]) = val us + pw i * (m * ys[i]) := by rw [hd3];grind
    rw [e3,e1,e2,← h3]
    grind
   have hiM : (i : Int) ≤ (M : Int) := by omega
   have hiL : (i : Int) < (Lb : Int) := by omega
   have hcne : ¬ M = i := by omega
   have HT := Lib.hid hT;have Hfin := Lib.hid hfin
   clear hT hfin hd1 hd2 hd3 hux hzz hvt hti hM0
   go_wp2_with (go_at_call 201;refine HT.out.mono ?_;rintro e w2 ⟨ds,⟨ue,rfl⟩,h1,h2,h3,hA2,hg2⟩;have H1 := Lib.hid (Hfin.out ds h1 h2 h3);have HA2 := Lib.hid hA2;have Hg2 := Lib.hid hg2;clear h1 h2 h3 hA2 hg2)
   exact ⟨⟨i + 1,_,by go_num,by omega,H1,HA2,hb.grown Hg2.out hb.size (fun b e => by cases e;exact Nat.le_refl _)⟩,by simp [intOf];omega⟩
  ·have hiL : i = Lb := by omega
   have hv : val us = ((m * n : Nat) : Int) := by
    rw [hd3,List.take_of_length_le (by have := Hy.out.2.2;omega),Hy.out.1,Int.natCast_mul]
   have hF := natFits Any (.slice (some ⟨w.heap.size,0,none⟩) M M) us (m * n) wr (hAr.out.all (S := Any) trivial (Lim.wf hd2) (by omega) hd1.symm (Nat.le_refl _)) hv
   have HF := Lib.hid hF
   clear hF hd1 hd2 hd3 hv
   by_cases hl : (lim (m * n)).length ≤ 96
   ·go_wp2_with (go_at_call 202; refine HF.out.mono ?_; rintro e w3 ⟨hf1, hf2, hf3⟩; obtain ⟨a3, c3, rfl, hN⟩ := hf1 hl; have HN := Lib.hid hN; clear hN hf1 hf2)
    go_ret2
    exact ⟨fun _ => ⟨a3,c3,rfl,HN.out⟩,fun h => by omega,hb.trans (hf3.mono hb.size)⟩
   ·go_wp2_with (go_at_call 202; refine HF.out.mono ?_; rintro e w3 ⟨hf1, hf2, hf3⟩; have he := hf2 (by omega); subst he; clear hf1 hf2)
    go_ret2
    exact ⟨fun h => by omega,fun _ => rfl,hb.trans (hf3.mono hb.size)⟩
end
end Go.Proofs.YthcbkhfmdginiaaGreat
