/- The contract of the reference's Split. -/
import Derived.Test.YtkjgddcjhikdgaaOct2
import Derived.Test.YtkjgddcjhikdgaaOwnX
namespace Go.Proofs.Ytkjgddcjhikdgaa
open Go Go.RowKit Go.Shelf

theorem Try.infoField : (Try.prog.info? 61).map (fun i => (i.zero, i.size, i.bytes)) = some (some (.slice none 0 0), 1, 24) := by kernel_rfl
/-- What a call of Split gives: the fields in memory of their own, and the error. -/
def SplitGives (xs : List Int) (w : World) (e : Ending) (w' : World) : Prop :=
  ∃ v, e = .returned (.tuple #[v, .int .i64 (splitE xs)]) ∧ OwnX w.heap.size 61 1 dField w' v (splitV xs) ∧ Below w.heap.size w w'
theorem SplitGives.long {xs : List Int} {w : World} (h : 16384 < xs.length) : SplitGives xs w (.returned (.tuple #[.slice none 0 0, .int .i64 4])) w :=
  ⟨_, by rw [splitE, if_pos h], by rw [splitV, if_pos h]; exact OwnX.nil _ _ _ _ _, Below.refl _ _⟩
theorem SplitGives.bad {xs : List Int} {w w' : World} (h : ¬ 16384 < xs.length) (hg : splitG xs xs.length 0 = none) (hb : Below w.heap.size w w') : SplitGives xs w (.returned (.tuple #[.slice none 0 0, .int .i64 10])) w' :=
  ⟨_, by rw [splitE, if_neg h, hg], by rw [splitV, if_neg h, hg]; exact OwnX.nil _ _ _ _ _, hb⟩
theorem SplitGives.good {xs : List Int} {ys : List (List Int)} {w w' : World} {v : Value} (h : ¬ 16384 < xs.length) (hg : splitG xs xs.length 0 = some ys) (ho : OwnX w.heap.size 61 1 dField w' v ys) (hb : Below w.heap.size w w') : SplitGives xs w (.returned (.tuple #[v, .int .i64 0])) w' :=
  ⟨_, by rw [splitE, if_neg h, hg], by rw [splitV, if_neg h, hg]; exact ho, hb⟩
/-- A part of the fields has been read: what is left is read from p on. -/
def SplitAt (xs : List Int) (ys : List (List Int)) (p : Nat) : Prop := p ≤ xs.length ∧ ys.length ≤ p ∧ ∃ f, xs.length ≤ f + p ∧ splitG xs xs.length 0 = (splitG xs f p).map (ys ++ ·)
theorem SplitAt.start (xs : List Int) : SplitAt xs [] 0 := ⟨Nat.zero_le _, Nat.zero_le _, xs.length, by omega, by simp⟩
theorem SplitAt.none {xs : List Int} {ys : List (List Int)} {p : Nat} (h : SplitAt xs ys p) (hp : p < xs.length) (ht : takeG xs p = none) : splitG xs xs.length 0 = none := by
  obtain ⟨_, _, f, hf, he⟩ := h
  obtain ⟨g, rfl⟩ : ∃ g, f = g + 1 := ⟨f - 1, by omega⟩
  rw [he, splitG, if_pos hp, ht]; rfl
theorem SplitAt.some {xs : List Int} {ys : List (List Int)} {p : Nat} {x : List Int} {q : Nat} (h : SplitAt xs ys p) (hp : p < xs.length) (ht : takeG xs p = some (x, q)) : SplitAt xs (ys ++ [x]) q := by
  obtain ⟨_, h2, f, hf, he⟩ := h
  obtain ⟨k1, k2, _⟩ := takeG_some ht
  obtain ⟨g, rfl⟩ : ∃ g, f = g + 1 := ⟨f - 1, by omega⟩
  refine ⟨k2, by simp; omega, g, by omega, ?_⟩
  rw [he, splitG, if_pos hp, ht]
  simp only [Option.map_map]
  congr 1
  funext l
  simp
theorem SplitAt.over {xs : List Int} {ys : List (List Int)} {p : Nat} (h : SplitAt xs ys p) (hp : ¬ p < xs.length) : splitG xs xs.length 0 = Option.some ys := by
  obtain ⟨_, _, f, hf, he⟩ := h
  rw [he]
  cases f <;> simp [splitG, hp]
theorem field_new {m base : Nat} {w w' : World} {v ov : Value} {x : List Int} {ys : List (List Int)} (h : Own m 5 1 (dInt .u8) w' v x) (hx : x.length ≤ 1000000) (ho : OwnX base 61 1 dField w ov ys) (hb : base ≤ m) (hm : m = w.heap.size) (o : Obj) :
    dField (Rg base (w'.alloc o) ov) (w'.alloc o) [v] x := by
  subst hm
  refine dField.stable _ _ _ _ _ (.of_below ((Below.refl _ _).alloc (Nat.le_refl _) _)) ⟨v, rfl, ?_⟩
  have hr := OwnX.rsl (famInt .u8) (by omega) (show OwnX w.heap.size 5 1 (fun _ => dInt .u8) w' v x from h) (by omega)
  refine RSl.mono (fun _ _ _ h => h) (fun b hb' => ⟨Nat.le_trans hb hb'.1, ?_, fun he => ?_⟩) hr
  · have := hb'.2; simp; omega
  · have := (Own.lt ho b he.symm).2
    have := hb'.1; omega

set_option maxHeartbeats 2000000 in
set_option maxRecDepth 100000 in
theorem refSplit (S : Nat → Prop) (v : Value) (xs : List Int) (w : World) (h : RBytes S w v xs) (hl : xs.length ≤ 1000000) :
    Calls Try.prog 89 #[v] w (SplitGives xs w) := by
  by_cases hlong : 16384 < xs.length
  · have hG := SplitGives.long (w := w) hlong
    obtain ⟨a, cap, rfl, h1, h2⟩ := RSl.shape h
    have HG := Lib.hid hG; clear hG h
    go_enter Try.func89, Try.ntmps89
    go_wp2
    go_ret2
    exact HG.out
  have hBad := fun w' hg hb => SplitGives.bad (w := w) (w' := w') hlong hg hb
  have hGood := fun w' v ys hg ho hb => SplitGives.good (w := w) (w' := w') (v := v) (ys := ys) hlong hg ho hb
  have hT := fun W (hW : Below w.heap.size w W) p hp => refTakeField S v xs p W (h.same (.of_below hW)) hp hl
  obtain ⟨a, cap, rfl, h1, h2⟩ := RSl.shape h
  have HBad := Lib.hid hBad; have HGood := Lib.hid hGood; have HT := Lib.hid hT; clear hBad hGood hT h
  go_enter Try.func89, Try.ntmps89
  go_wp2
  go_loopw [4, 5] (fun ov at_ wr => ∃ (ys : List (List Int)) (p : Nat), at_ = .int .i64 p ∧ Hid (SplitAt xs ys p) ∧ p ≤ xs.length ∧ ys.length ≤ p ∧ OwnX w.heap.size 61 1 dField wr ov ys ∧ Below w.heap.size w wr) (fun _ i _ => xs.length - (intOf i).toNat)
  case atStart => exact ⟨[], 0, rfl, Lib.hid (SplitAt.start xs), Nat.zero_le _, Nat.zero_le _, OwnX.nil _ _ _ _ _, Below.refl _ _⟩
  case round =>
    obtain ⟨ys, p, rfl, hat, hp, hys, ho, hb⟩ := hrel
    obtain ⟨aov, cov, rfl⟩ := ho.shape
    have hlw := hb.size
    by_cases hlt : p < xs.length
    · have hC := HT.out wr hb p hp
      rcases ht : takeG xs p with _ | ⟨x, q⟩
      · have hN := hat.out.none hlt ht
        have hC' := hC.mono (fun e w' (hh : TakeGives xs p wr e w') => by rw [TakeGives, ht] at hh; exact hh)
        have HN := Lib.hid hN; have HC := Lib.hid hC'; clear hN hC hC' ht
        go_wp2_with (go_at_call 130; refine HC.out.mono ?_; rintro e w1 ⟨rfl, hb1⟩)
        go_ret2
        exact HBad.out _ HN.out (hb.trans (hb1.mono hlw))
      · have hA := hat.out.some hlt ht
        obtain ⟨k1, k2, k3⟩ := takeG_some ht
        have hC' := hC.mono (fun e w' (hh : TakeGives xs p wr e w') => by rw [TakeGives, ht] at hh; exact hh)
        have HA := Lib.hid hA; have HC := Lib.hid hC'; clear hA hC hC' ht
        go_wp2_with (first
          | (go_at_call 130; refine HC.out.mono ?_; rintro e w1 ⟨a1, c1, rfl, hf, hb1⟩; have hO1 := (ho.below famField hb1).below famField (below_new w1 (.cells #[.slice a1 x.length c1] 61)); have hN1 := field_new hf (by omega) ho hlw rfl (.cells #[.slice a1 x.length c1] 61); have hl1 := hb1.size; have HN1 := Lib.hid hN1; clear hN1 hf)
          | (at_builtin; go_must (refine wpList_appX _ Try.infoField rfl rfl Try.underlying140 ⟨rfl, by omega, by omega⟩ famField w.heap.size hO1 rfl (g := w1.heap.size) (cs := [.slice a1 x.length c1]) (y := x) (box_new _ _) rfl HN1.out rfl (by omega) (by simp; omega) ?_); go_must (intro a' n' c' w3 hgr hO)))
        refine ⟨⟨ys ++ [x], q, rfl, HA, k2, by simp; omega, hO, ?_⟩, by simp [intOf]; omega⟩
        exact ((hb.trans (hb1.mono hlw)).alloc (by omega) _).grown hgr (by simp; omega) (fun g hg => (Own.lt ho g hg).1)
    · have hN := hat.out.over hlt
      have HN := Lib.hid hN; clear hN
      go_wp2
      go_ret2
      exact HGood.out _ _ _ HN.out ho hb
end Go.Proofs.Ytkjgddcjhikdgaa
