/- Texts of one claim, put together: Rng, Oct2, Spl, SplO. -/
import Derived.Test.YtopdfijojjbjdaaGreatKGFoot
import Derived.Test.YtopdfijojjbjdaaGreatKGPut
import Derived.RangeFuncNested
import Derived.RangeFuncBox
import Derived.RangeFuncBound
import Derived.RangeFuncCalls
import Derived.RangeFuncLeaves
import Derived.Shelf.Abstract
import Derived.WalkKit
import Derived.OwnWalkIn
import Derived.Shelf.RegionOpen
import Derived.TacticsInMore
import Derived.LoopNIn
import Derived.LoopIn

/- A range over a function whose iterator hands each round memory that it has made since the last: the body is told what lies there. -/
namespace Go.Proofs.YtopdfijojjbjdaaGreat
open Go Go.RowKit Go.Shelf

/-- How a round's body may end: it goes on, or it returns from the function. -/
def newPost {α : Type} (n₀ : Nat) (Kb : Nat → Prop) (I Ix : List α → World → Prop) (xs : List α) (W : World) : Exit → Act → World → Prop
  | .normal, _, W' => KeepsOthers W W' ∧ Below n₀ W W' ∧ (∀ b, Kb b → W'.heap[b]? = W.heap[b]?) ∧ I xs W'
  | .ret, _, W' => KeepsOthers W W' ∧ Ix xs W'
  | _, _, _ => False

variable {n : Nat} {P : Program}

end Go.Proofs.YtopdfijojjbjdaaGreat

/- The contracts of the reference's TakeField and Split; what splitting gives. -/
namespace Go.Proofs.YtopdfijojjbjdaaGreat
open Go Go.RowKit Go.Shelf

/-- The fields from a place on, by fuel. -/
def splitG (xs : List Int) : Nat → Nat → Option (List (List Int))
  | 0, p => if p < xs.length then none else some []
  | f + 1, p => if p < xs.length then (match takeG xs p with | none => none | some (x, q) => (splitG xs f q).map (x :: ·)) else some []
theorem takeG_some {xs : List Int} {p : Nat} {x : List Int} {q : Nat} (h : takeG xs p = some (x, q)) : p + 2 ≤ q ∧ q ≤ xs.length ∧ x.length ≤ 65535 + xs.length := by
  unfold takeG at h
  split at h
  · cases h
  · split at h
    · cases h
    · simp at h
      obtain ⟨rfl, rfl⟩ := h
      refine ⟨by omega, by omega, ?_⟩
      rw [List.length_take, List.length_drop]; omega
/-- Fields in memory: each a row of bytes. -/
def dField (S : Nat → Prop) (w : World) (cs : List Value) (x : List Int) : Prop := ∃ v, cs = [v] ∧ RBytes S w v x
theorem dField.stable (S : Nat → Prop) : Stable S (dField S) := fun _ _ _ _ hs ⟨v, h1, h2⟩ => ⟨v, h1, h2.same hs⟩
theorem dField.mono {S T : Nat → Prop} {w : World} {cs : List Value} {x : List Int} (hT : ∀ b, S b → T b) (h : dField S w cs x) : dField T w cs x := let ⟨v, h1, h2⟩ := h; ⟨v, h1, RSl.mono (fun _ _ _ h => h) hT h2⟩
theorem dField.one (S : Nat → Prop) : OneC (dField S) := by
  intro w cs x h u hu; obtain ⟨v, rfl, hv⟩ := h; simp at hu; subst hu; exact slice_one hv
end Go.Proofs.YtopdfijojjbjdaaGreat

/- The contract of the reference's Split. -/
namespace Go.Proofs.YtopdfijojjbjdaaGreat
open Go Go.RowKit Go.Shelf

/-- A part of the fields has been read: what is left is read from p on. -/
def SplitAt (xs : List Int) (ys : List (List Int)) (p : Nat) : Prop := p ≤ xs.length ∧ ys.length ≤ p ∧ ∃ f, xs.length ≤ f + p ∧ splitG xs xs.length 0 = (splitG xs f p).map (ys ++ ·)
theorem SplitAt.start (xs : List Int) : SplitAt xs [] 0 := ⟨Nat.zero_le _, Nat.zero_le _, xs.length, by omega, by simp⟩
theorem SplitAt.none {xs : List Int} {ys : List (List Int)} {p : Nat} (h : SplitAt xs ys p) (hp : p < xs.length) (ht : takeG xs p = none) : splitG xs xs.length 0 = none := by
  obtain ⟨_, _, f, hf, he⟩ := h
  obtain ⟨g, rfl⟩ : ∃ g, f = g + 1 := ⟨f - 1, by omega⟩
  rw [he, splitG, if_pos hp, ht]; rfl
theorem SplitAt.some {xs : List Int} {ys : List (List Int)} {p : Nat} {x : List Int} {q : Nat} (h : SplitAt xs ys p) (hp : p < xs.length) (ht : takeG xs p = some (x, q)) : SplitAt xs (ys ++ [x]) q := by
  obtain ⟨_, h2, f, hf, he⟩ := h
  obtain ⟨k1, k2, _⟩ := takeG_some ht
  obtain ⟨g, rfl⟩ : ∃ g, f = g + 1 := ⟨f - 1, by omega⟩
  refine ⟨k2, by simp; omega, g, by omega, ?_⟩
  rw [he, splitG, if_pos hp, ht]
  simp only [Option.map_map]
  congr 1
  funext l
  simp
theorem SplitAt.over {xs : List Int} {ys : List (List Int)} {p : Nat} (h : SplitAt xs ys p) (hp : ¬ p < xs.length) : splitG xs xs.length 0 = Option.some ys := by
  obtain ⟨_, _, f, hf, he⟩ := h
  rw [he]
  cases f <;> simp [splitG, hp]
end Go.Proofs.YtopdfijojjbjdaaGreat

/- The contracts of octet.fields and octet.Split: an iterator that hands over memory of its own making. -/
namespace Go.Proofs.YtopdfijojjbjdaaGreat
open Go Go.RowKit Go.Shelf
attribute [local go_sem] Oper.semAt_some

/-- What a round is handed: a field's value, its bytes, the error. -/
structure Yd where
  v : Value
  x : List Int
  e : Int
theorem OwnX.putObj {α : Type} {base : Nat} {e : TypeId} {n : Nat} {dec : (Nat → Prop) → World → List Value → α → Prop} (F : Fam dec) {w : World} {v : Value} {xs : List α} (h : OwnX base e n dec w v xs) {l : Nat} (hl : l < base) (o : Obj) : OwnX base e n dec (w.putObj l o) v xs :=
  Own.dmono (fun _ _ hd => F.mono (fun _ hb => ⟨hb.1, by simpa using hb.2.1, hb.2.2⟩) hd)
    (Own.kept (F.stable _) h (grownBy_putObj' w l o) (by
      cases hv : v.ownBlock with
      | none => exact .inl rfl
      | some k => exact .inr (fun e => by cases e; have := (Own.lt h _ hv).1; omega)) (fun b _ hs => World.putObj_heap_other (fun e => by have := hs.1; omega)))
theorem OwnX.low {α : Type} {b b' : Nat} {e : TypeId} {n : Nat} {dec : (Nat → Prop) → World → List Value → α → Prop} (F : Fam dec) (hb : b' ≤ b) {w : World} {v : Value} {xs : List α} (h : OwnX b e n dec w v xs) : OwnX b' e n dec w v xs := by
  obtain ⟨cells, ⟨h1, h2⟩, hd⟩ := Own.dmono (d' := dec (Rg b' w v)) (fun _ _ hd => F.mono (fun _ hx => ⟨Nat.le_trans hb hx.1, hx.2⟩) hd) h
  refine ⟨cells, ⟨h1, ?_⟩, hd⟩
  rcases h2 with h2 | ⟨g, cap, cur, rfl, hg, hr⟩
  · exact .inl h2
  · exact .inr ⟨g, cap, cur, rfl, Nat.le_trans hb hg, hr⟩
theorem OwnX.cells {α : Type} {base : Nat} {e : TypeId} {n : Nat} {dec : (Nat → Prop) → World → List Value → α → Prop} {w : World} {v : Value} {xs : List α} (h : OwnX base e n dec w v xs) (j : Nat) (o : Obj) (hj : v.ownBlock = some j) (ho : w.heap[j]? = some o) : o.isCells = true := by
  obtain ⟨cells, hw, _⟩ := h
  rcases hw.2 with ⟨rfl, _⟩ | ⟨g, cap, cur, rfl, _, hg, _⟩
  · cases hj
  · cases hj; rw [hg] at ho; cases ho; rfl
end Go.Proofs.YtopdfijojjbjdaaGreat
