/- The contracts of the copies: slices.Clone of integers, of ballots, of batches; copies of one ballot. -/
import Derived.Test.YtkjgddcjhikdgaaWr
import Derived.Test.YtkjgddcjhikdgaaProg
import Derived.WalkSpells
import Derived.WalkLawsBesides
namespace Go.Proofs.Ytkjgddcjhikdgaa
open Go Go.RowKit

theorem Try.infoInt : (Try.prog.info? 3).map (fun i => (i.zero, i.size, i.bytes)) = some (some (.int .i64 0), 1, 8) := by kernel_rfl
theorem Try.infoBlt : (Try.prog.info? 25).map (fun i => (i.zero, i.size, i.bytes)) = some (some (.agg #[.int .u8 0, .slice none 0 0]), 2, 32) := by kernel_rfl
theorem Try.infoBtc : (Try.prog.info? 64).map (fun i => (i.zero, i.size, i.bytes)) = some (some (.agg #[.string ⟨#[]⟩, .slice none 0 0]), 2, 40) := by kernel_rfl

/-- The call returns a slice of its own memory that reads as xs, and nothing that was there has changed. -/
def GivesSl {α : Type} (n : Nat) (dec : (Nat → Prop) → World → List Value → α → Prop) (xs : List α) (w : World) (e : Ending) (w' : World) : Prop :=
  ∃ v, e = .returned v ∧ WSl (From w.heap.size) n (dec (From w.heap.size)) w' v xs ∧ Below w.heap.size w w'
/-- The call returns a row of its own. -/
def GivesOwn {α : Type} (ty : TypeId) (n : Nat) (dec : World → List Value → α → Prop) (xs : List α) (w : World) (e : Ending) (w' : World) : Prop :=
  ∃ v, e = .returned v ∧ Own w.heap.size ty n dec w' v xs ∧ Below w.heap.size w w'
def GivesBlt (x : Blt) (w : World) (e : Ending) (w' : World) : Prop :=
  ∃ v, e = .returned v ∧ WBlt (From w.heap.size) w' v x ∧ Below w.heap.size w w'

theorem nil_of_none {α : Type} {S : Nat → Prop} {n : Nat} {dec : World → List Value → α → Prop} {w : World} {m cap : Nat} {xs : List α} (h : RSl S n dec w (.slice none m cap) xs) : xs = [] := by
  obtain ⟨a, cap, cells, hv, _, _, _, h⟩ := h
  simp only [Value.slice.injEq] at hv
  obtain ⟨rfl, _⟩ := hv
  rcases h with h | ⟨b, off, h, _⟩
  · exact h
  · cases h

set_option maxHeartbeats 400000 in
theorem cloneInts (S : Nat → Prop) (v : Value) (xs : List Int) (w : World) (h : RInts S w v xs) (hl : xs.length ≤ 1000000000) :
    Calls Try.prog 125 #[v] w (GivesOwn 3 1 (dInt .i64) xs w) := by
  obtain ⟨a, cap, rfl, h1, h2⟩ := RSl.shape h
  have hnil := fun (w : World) (a : Option Addr) (n c : Nat) => Lib.run_eql_slice_nil (P := Try.prog) w 23 3 a n c 0 0 Try.underlying23
  cases a with
  | none =>
    obtain rfl := nil_of_none h
    go_enter Try.func125, Try.ntmps125
    go_wp2
    go_ret
    exact ⟨_, rfl, Own.nil _ _ _ _ _, Below.refl _ _⟩
  | some ad =>
    have hb0 : Below w.heap.size w (w.alloc (.cells #[] 3)) := (Below.refl _ _).alloc (Nat.le_refl _) _
    have hu := RSl.same (dInt.stable (Cut S w.heap.size) .i64) (.of_below hb0) h.cut
    go_enter Try.func125, Try.ntmps125
    go_wp2_with (at_builtin; refine wpList_app _ Try.infoInt rfl rfl Try.underlying23 ⟨rfl, by omega, by omega⟩ (dInt.one _) (dInt.stable (Cut S w.heap.size) .i64) w.heap.size (Own.made _ _ _ _ w #[] 0 (Nat.le_refl _) (by simp [maxLen]) rfl) rfl hu rfl (by simp; omega) (by simp) ?_; intro a' c' w' hg hat ho)
    go_ret
    have ho' := ho (.of_grown hg (fun b hb => by simp only [Value.ownBlock, ne_eq, Option.some.injEq]; have := hb.2; omega))
    exact ⟨_, rfl, ho', hb0.grown hg (by simp) (by simp [Value.ownBlock])⟩
set_option maxHeartbeats 400000 in
theorem cloneBlts (S : Nat → Prop) (v : Value) (xs : List Blt) (w : World) (h : RBlts S w v xs) (hl : xs.length ≤ 1000000000) :
    Calls Try.prog 81 #[v] w (GivesOwn 25 2 (dBlt (Cut S w.heap.size)) xs w) := by
  obtain ⟨a, cap, rfl, h1, h2⟩ := RSl.shape h
  have hnil := fun (w : World) (a : Option Addr) (n c : Nat) => Lib.run_eql_slice_nil (P := Try.prog) w 62 25 a n c 0 0 Try.underlying62
  cases a with
  | none =>
    obtain rfl := nil_of_none h
    go_enter Try.func81, Try.ntmps81
    go_wp2
    go_ret
    exact ⟨_, rfl, Own.nil _ _ _ _ _, Below.refl _ _⟩
  | some ad =>
    have hb0 : Below w.heap.size w (w.alloc (.cells #[] 25)) := (Below.refl _ _).alloc (Nat.le_refl _) _
    have hu := RSl.same (dBlt.stable (Cut S w.heap.size)) (.of_below hb0) h.cut
    go_enter Try.func81, Try.ntmps81
    go_wp2_with (at_builtin; refine wpList_app _ Try.infoBlt rfl rfl Try.underlying62 ⟨rfl, by omega, by omega⟩ (dBlt.one _) (dBlt.stable (Cut S w.heap.size)) w.heap.size (Own.made _ _ _ _ w #[] 0 (Nat.le_refl _) (by simp [maxLen]) rfl) rfl hu rfl (by simp; omega) (by simp) ?_; intro a' c' w' hg hat ho)
    go_ret
    have ho' := ho (.of_grown hg (fun b hb => by simp only [Value.ownBlock, ne_eq, Option.some.injEq]; have := hb.2; omega))
    exact ⟨_, rfl, ho', hb0.grown hg (by simp) (by simp [Value.ownBlock])⟩
set_option maxHeartbeats 400000 in
theorem cloneBtcs (S : Nat → Prop) (v : Value) (xs : List Btc) (w : World) (h : RBtcs S w v xs) (hl : xs.length ≤ 1000000000) :
    Calls Try.prog 80 #[v] w (GivesOwn 64 2 (dBtc (Cut S w.heap.size)) xs w) := by
  obtain ⟨a, cap, rfl, h1, h2⟩ := RSl.shape h
  have hnil := fun (w : World) (a : Option Addr) (n c : Nat) => Lib.run_eql_slice_nil (P := Try.prog) w 22 64 a n c 0 0 Try.underlying22
  cases a with
  | none =>
    obtain rfl := nil_of_none h
    go_enter Try.func80, Try.ntmps80
    go_wp2
    go_ret
    exact ⟨_, rfl, Own.nil _ _ _ _ _, Below.refl _ _⟩
  | some ad =>
    have hb0 : Below w.heap.size w (w.alloc (.cells #[] 64)) := (Below.refl _ _).alloc (Nat.le_refl _) _
    have hu := RSl.same (dBtc.stable (Cut S w.heap.size)) (.of_below hb0) h.cut
    go_enter Try.func80, Try.ntmps80
    go_wp2_with (at_builtin; refine wpList_app _ Try.infoBtc rfl rfl Try.underlying22 ⟨rfl, by omega, by omega⟩ (dBtc.one _) (dBtc.stable (Cut S w.heap.size)) w.heap.size (Own.made _ _ _ _ w #[] 0 (Nat.le_refl _) (by simp [maxLen]) rfl) rfl hu rfl (by simp; omega) (by simp) ?_; intro a' c' w' hg hat ho)
    go_ret
    have ho' := ho (.of_grown hg (fun b hb => by simp only [Value.ownBlock, ne_eq, Option.some.injEq]; have := hb.2; omega))
    exact ⟨_, rfl, ho', hb0.grown hg (by simp) (by simp [Value.ownBlock])⟩
end Go.Proofs.Ytkjgddcjhikdgaa
