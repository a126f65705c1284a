/- The contracts of the references' Great: whether batches are larger than the statements examine. -/
import Derived.Test.YtkjgddcjhikdgaaSpec
import Derived.Test.YtkjgddcjhikdgaaProg
import Derived.WalkKit
import Derived.Lib.Hide
import Derived.WalkSpells
import Derived.WalkLawsBesides
namespace Go.Proofs.Ytkjgddcjhikdgaa
open Go Go.RowKit

def greatBlt (b : Blt) : Bool := decide (60 < b.marks.length)
def greatBtc (b : Btc) : Bool := decide (70 < b.blts.length) || decide (1000 < b.name.size) || b.blts.any greatBlt
def great (l : List Btc) : Bool := decide (20 < l.length) || l.any greatBtc

set_option maxHeartbeats 400000 in
theorem great08 (S : Nat → Prop) (v : Value) (x : Blt) (w : World) (h : VBlt S w v x) :
    Calls Try.prog 19 #[v] w fun e w' => e = .returned (.bool (greatBlt x)) ∧ Below w.heap.size w w' := by
  obtain ⟨c, d, rfl, h⟩ := h
  obtain ⟨a, cap, rfl, rfl, hl, _, _, h⟩ := h.open
  go_enter Try.func19, Try.ntmps19
  go_wp2
  go_ret
  exact ⟨ret_bool (by simp only [greatBlt]; exact decide_eq_decide.2 (by omega)), (Below.refl _ _).alloc (Nat.le_refl _) _⟩

set_option maxHeartbeats 1000000 in
theorem great26 (S : Nat → Prop) (v : Value) (l : List Btc) (w : World) (h : RBtcs S w v l) :
    Calls Try.prog 18 #[v] w fun e w' => e = .returned (.bool (great l)) ∧ Below w.heap.size w w' := by
  obtain ⟨a, cap, rfl, h1, h2⟩ := RSl.shape h
  by_cases h20 : 20 < l.length
  · go_enter Try.func18, Try.ntmps18
    go_wp2
    go_ret
    exact ⟨by simp [great, h20], Below.refl _ _⟩
  go_enter Try.func18, Try.ntmps18
  go_wp2
  go_loopw [3] (fun i wr => ∃ k : Nat, k ≤ l.length ∧ i = .int .i64 k ∧ (l.take k).any greatBtc = false ∧ Below w.heap.size w wr) (fun i _ => l.length - (intOf i).toNat)
  case atStart => exact ⟨0, Nat.zero_le _, rfl, by simp, Below.refl _ _⟩
  case round =>
    obtain ⟨k, hk, rfl, hg, hb⟩ := hrel
    have Hg := Lib.hid hg; clear hg
    by_cases hlt : k < l.length
    · obtain ⟨b, off, c, d, rfl, hS, hbw, hc, hd, hx⟩ := RSl.at2 (h.same (.of_below hb)) k hlt
      obtain ⟨a', cap', rfl, rfl, hl1, hl2, hx⟩ := hx.open
      have ht : (l.take (k + 1)).any greatBtc = greatBtc l[k] := by rw [any_take_succ _ _ _ hlt, Hg.out, Bool.false_or]
      have Ht := Lib.hid ht; clear ht
      by_cases c1 : 70 < l[k].blts.length
      · go_wp2
        go_ret
        exact ⟨ret_bool (by rw [great, any_of_get greatBtc l k hlt (by simp [greatBtc, c1])]; simp), hb⟩
      by_cases c2 : 1000 < l[k].name.size
      · go_wp2
        go_ret
        exact ⟨ret_bool (by rw [great, any_of_get greatBtc l k hlt (by simp [greatBtc, c2])]; simp), hb⟩
      go_wp2
      obtain ⟨w1, rfl⟩ : ∃ w1 : World, w1 = wr := ⟨_, rfl⟩
      go_loopw [4] (fun i wr' => ∃ j : Nat, j ≤ l[k].blts.length ∧ i = .int .i64 j ∧ Hid ((l[k].blts.take j).any greatBlt = false) ∧ Below w1.heap.size w1 wr') (fun i _ => l[k].blts.length - (intOf i).toNat)
      case atStart => exact ⟨0, Nat.zero_le _, rfl, Lib.hid (by simp), Below.refl _ _⟩
      case round =>
        obtain ⟨j, hj, rfl, hg', hb'⟩ := hrel
        have hc' := (Same.of_below (S := Any) hb').cell trivial hc
        have hd' := (Same.of_below (S := Any) hb').cell trivial hd
        by_cases hj' : j < l[k].blts.length
        · obtain ⟨b2, off2, c, d, rfl, hS2, hbw2, hc2, hd2, hx2⟩ := RSl.at2 (hx.same (.of_below hb')) j hj'
          go_wp2_with (go_at_call 19; refine (great08 S _ _ _ ⟨_, _, rfl, hx2⟩).mono ?_; rintro e w' ⟨rfl, hb3⟩)
          · have hgr : greatBlt l[k].blts[j] = true := by assumption
            go_ret
            exact ⟨ret_bool (by rw [great, any_of_get greatBtc l k hlt (by simp [greatBtc, any_of_get greatBlt _ j hj' hgr])]; simp), (hb.trans (hb'.mono hb.size)).trans (hb3.mono (hb.trans (hb'.mono hb.size)).size)⟩
          · have hgr : greatBlt l[k].blts[j] = false := by assumption
            exact ⟨⟨j + 1, by omega, by go_num, Lib.hid (by rw [any_take_succ _ _ _ hj', hg'.out, hgr]; rfl), hb'.trans (hb3.mono hb'.size)⟩, by simp [intOf]; omega⟩
        · go_wp2
          rw [List.take_of_length_le (by omega)] at hg'
          exact ⟨⟨k + 1, by omega, by go_num, by rw [Ht.out]; simp only [greatBtc, hg'.out, c1, c2]; rfl, hb.trans (hb'.mono hb.size)⟩, by simp [intOf]; omega⟩
    · go_wp2
      go_ret
      exact ⟨ret_bool (by rw [great]; rw [List.take_of_length_le (by omega)] at Hg; rw [Hg.out]; simp [h20]), hb⟩
end Go.Proofs.Ytkjgddcjhikdgaa
