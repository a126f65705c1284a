/- The contracts on names: record.named, the reference's Name. -/
import Derived.Test.YtkjgddcjhikdgaaSpec
import Derived.Test.YtkjgddcjhikdgaaShelf
import Derived.Test.YtkjgddcjhikdgaaProg
import Derived.WalkKit
import Derived.WalkSpells
import Derived.WalkLawsBesides
import Derived.Lib.Hide
namespace Go.Proofs.Ytkjgddcjhikdgaa
open Go Go.RowKit

def goodByte (b : UInt8) : Bool := decide (33 ≤ b.toNat) && decide (b.toNat ≤ 126)
/-- A name: 1 to 40 bytes, each from 33 to 126. -/
def nameB (s : ByteArray) : Bool := decide (1 ≤ s.size) && (decide (s.size ≤ 40) && (List.range s.size).all fun i => goodByte (s.get! i))
def badRune (r : Nat) : Bool := decide (r < 33) || decide (126 < r)

theorem decode_low (s : ByteArray) (i : Nat) (h : (s.get! i).toNat < 128) : Utf8.decode s i = ((s.get! i).toNat, 1) := by
  simp only [Utf8.decode, Nat.add_zero, if_pos h]
theorem decode_high (s : ByteArray) (i : Nat) (h : ¬ (s.get! i).toNat < 128) : 128 ≤ (Utf8.decode s i).1 := by
  simp only [Utf8.decode, Nat.add_zero, if_neg h, Utf8.runeError]
  repeat' split
  all_goals first | (simp at *; omega) | simp
theorem idx_none (s : ByteArray) : ∀ f pos, s.size ≤ pos + f → (∀ i, pos ≤ i → i < s.size → goodByte (s.get! i) = true) → Lib.idxFuncFrom badRune true s f pos = -1
  | 0, pos, h, _ => rfl
  | f + 1, pos, h, hg => by
    by_cases hp : pos < s.size
    · have hb := hg pos (Nat.le_refl _) hp
      simp only [goodByte, Bool.and_eq_true, decide_eq_true_eq] at hb
      have hd := decode_low s pos (by omega)
      have hbad : badRune (s.get! pos).toNat = false := by simp [badRune]; omega
      simp only [Lib.idxFuncFrom, hp, if_true, hd, hbad, Bool.false_eq_true, if_false]
      exact idx_none s f (pos + 1) (by omega) (fun i h1 h2 => hg i (by omega) h2)
    · exact Lib.idxFuncFrom_end _ _ _ _ _ hp
theorem idx_some (s : ByteArray) : ∀ f pos, s.size ≤ pos + f → ∀ i, pos ≤ i → i < s.size → goodByte (s.get! i) = false → (∀ k, pos ≤ k → k < i → goodByte (s.get! k) = true) → 0 ≤ Lib.idxFuncFrom badRune true s f pos
  | 0, pos, h, i, h1, h2, _, _ => by omega
  | f + 1, pos, h, i, h1, h2, hi, hg => by
    have hp : pos < s.size := by omega
    by_cases e : i = pos
    · subst e
      have hbad : badRune (Utf8.decode s i).1 = true := by
        by_cases hl : (s.get! i).toNat < 128
        · rw [decode_low s i hl]
          simp only [goodByte, Bool.and_eq_false_iff, decide_eq_false_iff_not] at hi
          simp [badRune]; omega
        · have := decode_high s i hl
          simp [badRune]; omega
      simp only [Lib.idxFuncFrom, hp, if_true, hbad]
      omega
    · have hb := hg pos (Nat.le_refl _) (by omega)
      simp only [goodByte, Bool.and_eq_true, decide_eq_true_eq] at hb
      have hd := decode_low s pos (by omega)
      have hbad : badRune (s.get! pos).toNat = false := by simp [badRune]; omega
      simp only [Lib.idxFuncFrom, hp, if_true, hd, hbad, Bool.false_eq_true, if_false]
      exact idx_some s f (pos + 1) (by omega) i (by omega) h2 hi (fun k h3 h4 => hg k (by omega) h4)
theorem least_bad (p : Nat → Bool) : ∀ n, (List.range n).all p = false → ∃ i, i < n ∧ p i = false ∧ ∀ k, k < i → p k = true
  | 0, h => by simp at h
  | n + 1, h => by
    rw [List.range_succ, List.all_append] at h
    cases hn : (List.range n).all p
    · obtain ⟨i, h1, h2, h3⟩ := least_bad p n hn
      exact ⟨i, by omega, h2, h3⟩
    · rw [hn] at h
      refine ⟨n, by omega, by simpa using h, fun k hk => List.all_eq_true.1 hn k (List.mem_range.2 hk)⟩
theorem idx_name (s : ByteArray) : decide (0 ≤ Lib.idxFunc badRune true s) = !((List.range s.size).all fun i => goodByte (s.get! i)) := by
  cases h : (List.range s.size).all fun i => goodByte (s.get! i)
  · obtain ⟨i, h1, h2, h3⟩ := least_bad (fun i => goodByte (s.get! i)) s.size h
    exact decide_eq_true (idx_some s s.size 0 (by omega) i (by omega) h1 h2 (fun k _ hk => h3 k hk))
  · have : Lib.idxFunc badRune true s = -1 := idx_none s s.size 0 (by omega) (fun i _ h2 => List.all_eq_true.1 h i (List.mem_range.2 h2))
    rw [this]; rfl

set_option maxHeartbeats 400000 in
theorem bad_pred (w : World) : PredAt Try.prog 157 #[] encR badRune w := by
  intro W r _
  unfold FnGives
  by_cases h1 : r < 33
  · have hb : badRune r = true := by simp [badRune, h1]
    have Hb := Lib.hid hb; clear hb
    have h1' : (r : Int) < 33 := by omega
    go_enter Try.func157, Try.ntmps157
    go_wp2
    go_ret
    exact ⟨ret_bool Hb.out.symm, 0, rfl⟩
  · by_cases h2 : 126 < r
    · have hb : badRune r = true := by simp [badRune, h2]
      have Hb := Lib.hid hb; clear hb
      have h1' : ¬ (r : Int) < 33 := by omega
      have h2' : (126 : Int) < r := by omega
      go_enter Try.func157, Try.ntmps157
      go_wp2
      go_ret
      exact ⟨ret_bool Hb.out.symm, 0, rfl⟩
    · have hb : badRune r = false := by rw [badRune, decide_eq_false h1, decide_eq_false h2]; rfl
      have Hb := Lib.hid hb; clear hb
      have h1' : ¬ (r : Int) < 33 := by omega
      have h2' : ¬ (126 : Int) < r := by omega
      go_enter Try.func157, Try.ntmps157
      go_wp2
      go_ret
      exact ⟨ret_bool (by rw [Hb.out]), 0, rfl⟩

set_option maxHeartbeats 400000 in
theorem named (s : ByteArray) (w : World) (hs : s.size ≤ 140737488355328) :
    Calls Try.prog 119 #[.string s] w fun e w' => e = .returned (.bool (nameB s)) ∧ Below w.heap.size w w' := by
  have hC := fun W => Try.strings_ContainsFunc 157 #[] (enters_of Try.func157 (by kernel_rfl) rfl) badRune s W (bad_pred W)
  have HC := Lib.hid hC; clear hC
  go_enter Try.func119, Try.ntmps119
  go_wp2_with (go_at_call 127; refine (HC.out _).mono ?_; rintro e w1 ⟨rfl, hb1⟩)
  · have h0 : s.toList = [] := by assumption
    rw [ByteArray.toList_eq] at h0
    have h1 : s.size = 0 := by have := congrArg List.length h0; simpa using this
    go_ret
    exact ⟨ret_bool (by simp [nameB, h1]), Below.refl _ _⟩
  · have h0 : ¬ s.toList = [] := by assumption
    have h2 : (s.size : Int) ≤ 40 := by assumption
    have h1 : 1 ≤ s.size := by
      rcases Nat.eq_zero_or_pos s.size with h | h
      · rw [ByteArray.toList_eq] at h0
        exact absurd (List.eq_nil_of_length_eq_zero (by simpa using h)) h0
      · exact h
    have h3 : s.size ≤ 40 := by omega
    go_ret
    refine ⟨ret_bool ?_, hb1⟩
    rw [idx_name, Bool.not_not, nameB, decide_eq_true h1, decide_eq_true h3]
    have : s.toList.isEmpty = false := by simpa using h0
    simp [this]
  · have h2 : 40 < (s.size : Int) := by assumption
    go_ret
    have h3 : ¬ s.size ≤ 40 := by omega
    exact ⟨ret_bool (by simp [nameB, h3]), Below.refl _ _⟩

set_option maxHeartbeats 400000 in
theorem nameRef (s : ByteArray) (w : World) (hs : s.size ≤ 140737488355328) :
    Calls Try.prog 74 #[.string s] w fun e w' => e = .returned (.bool (nameB s)) ∧ w = w' := by
  by_cases h1 : s.size < 1
  · have hn : nameB s = false := by simp [nameB]; omega
    have Hn := Lib.hid hn; clear hn
    go_enter Try.func74, Try.ntmps74
    go_wp2
    go_ret
    exact ⟨ret_bool Hn.out.symm, rfl⟩
  by_cases h2 : 40 < s.size
  · have hn : nameB s = false := by simp [nameB]; omega
    have Hn := Lib.hid hn; clear hn
    go_enter Try.func74, Try.ntmps74
    go_wp2
    go_ret
    exact ⟨ret_bool Hn.out.symm, rfl⟩
  go_enter Try.func74, Try.ntmps74
  go_wp2
  go_loop [3] (fun i => ∃ k : Nat, k ≤ s.size ∧ i = .int .i64 k ∧ Hid ((List.range k).all (fun i => goodByte (s.get! i)) = true)) (fun i => s.size - (intOf i).toNat)
  case atStart => exact ⟨0, Nat.zero_le _, rfl, Lib.hid rfl⟩
  case round =>
    obtain ⟨k, hk, rfl, hg⟩ := hrel
    by_cases hlt : k < s.size
    · have hget : s.get! k = s[k] := by simp [ByteArray.get!, hlt]; rfl
      have Hget := Lib.hid hget; clear hget
      have hbad : goodByte s[k] = false → nameB s = false := fun hb => by
        have : (List.range s.size).all (fun i => goodByte (s.get! i)) = false := by
          cases h : (List.range s.size).all (fun i => goodByte (s.get! i))
          · rfl
          · have := List.all_eq_true.1 h k (List.mem_range.2 hlt)
            rw [Hget.out, hb] at this; cases this
        rw [nameB, this]; simp
      have Hbad := Lib.hid hbad; clear hbad
      by_cases c1 : s[k].toNat < 33
      · have c1' : (s[k].toNat : Int) < 33 := by omega
        go_wp2
        go_ret
        exact ⟨ret_bool (Hbad.out (by simp [goodByte]; omega)).symm, rfl⟩
      by_cases c2 : 126 < s[k].toNat
      · have c2' : 126 < (s[k].toNat : Int) := by omega
        go_wp2
        go_ret
        exact ⟨ret_bool (Hbad.out (by simp [goodByte]; omega)).symm, rfl⟩
      have c1' : ¬ (s[k].toNat : Int) < 33 := by omega
      have c2' : ¬ 126 < (s[k].toNat : Int) := by omega
      go_wp2
      go_round
      case rel => exact ⟨k + 1, by omega, by go_num, Lib.hid (by rw [List.range_succ, List.all_append, hg.out]; simp [Hget.out, goodByte]; omega)⟩
      case measure => simp [intOf]; omega
    · obtain rfl : k = s.size := by omega
      go_wp2
      go_ret
      exact ⟨ret_bool (by rw [nameB, hg.out]; simp; omega), rfl⟩
end Go.Proofs.Ytkjgddcjhikdgaa
