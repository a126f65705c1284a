/- Texts of one claim, put together: RefA, Push, RefE, RefF. -/
import Derived.Test.YtopdfijojjbjdaaGreatKGNat

/- The reference's natural numbers: Check, Both, at, Trim, less, Same. -/
namespace Go.Proofs.YtopdfijojjbjdaaGreat
open Go Go.RowKit Go.Shelf Limb

theorem RU.from {a b : Nat} {w : World} {v : Value} {xs : List Int} (h : RU (From b) w v xs) (hab : a ≤ b) : RU (From a) w v xs := RSl.mono (fun _ _ _ h => h) (fun _ h => Nat.le_trans hab h) h
end Go.Proofs.YtopdfijojjbjdaaGreat

/- One number appended to a row of the call's own. -/
namespace Go.Proofs.YtopdfijojjbjdaaGreat
open Go Go.RowKit Go.Shelf Limb

def OwnU (base : Nat) (w : World) (v : Value) (xs : List Int) : Prop := Own base 129 1 (dInt .u32) w v xs
theorem OwnU.nil (base : Nat) (w : World) : OwnU base w (.slice none 0 0) [] := Own.nil _ _ _ _ _
theorem OwnU.below {base : Nat} {w w' : World} {v : Value} {xs : List Int} (h : OwnU base w v xs) (hb : Below w.heap.size w w') : OwnU base w' v xs := Own.below (S := fun _ => False) (dInt.stable _ _) h hb
theorem OwnU.shape {base : Nat} {w : World} {v : Value} {xs : List Int} (h : OwnU base w v xs) : ∃ a c, v = .slice a xs.length c := Own.shape h
theorem OwnU.ru {base : Nat} {w : World} {v : Value} {xs : List Int} (h : OwnU base w v xs) (hl : xs.length ≤ 140737488355328) : RU Any w v xs :=
  RSl.mono (fun _ _ _ h => h) (fun _ _ => trivial) (Own.rsl h hl)
end Go.Proofs.YtopdfijojjbjdaaGreat

/- The reference's natural numbers: Mul. -/
namespace Go.Proofs.YtopdfijojjbjdaaGreat
open Go Go.RowKit Go.Shelf Limb

/-- A row of zeros just made, as a row of the call's own. -/
theorem OwnU.zeros (base : Nat) (w : World) (n : Nat) (hb : base ≤ w.heap.size) (hn : n ≤ 1000000) :
    OwnU base (w.alloc (.cells (madeCells #[.int .u32 0] n) 129)) (.slice (some ⟨w.heap.size, 0, none⟩) n n) (List.replicate n 0) := by
  refine ⟨List.replicate n (.int .u32 0), ⟨by simp, .inr ⟨w.heap.size, n, madeCells #[.int .u32 0] n, by simp, hb, box_new w _, by simp, by simp [maxLen]; omega, by rw [← Array.length_toList, toList_madeCells_one]; simp, ?_⟩⟩, ?_⟩
  · rw [toList_madeCells_one, List.take_of_length_le (by simp)]
  · refine ⟨by simp, fun i hi => ?_⟩
    have hi' : i < n := by simpa using hi
    rw [Nat.mul_one, List.drop_replicate, List.take_replicate, show min 1 (n - i) = 1 by omega, List.getElem_replicate]
    exact ⟨rfl, wf_u32.2 (by omega)⟩
end Go.Proofs.YtopdfijojjbjdaaGreat

/- The reference's natural numbers: Div. -/
namespace Go.Proofs.YtopdfijojjbjdaaGreat
open Go Go.RowKit Go.Shelf Limb

theorem NumAt.one (w : World) : RU Any (w.alloc (.cells #[.int .u32 1] 129)) (.slice (some ⟨w.heap.size, 0, none⟩) 1 1) [1] :=
  RSl.mono (fun _ _ _ h => h) (fun _ _ => trivial) (RSl.built (lo := 0) (cs := [.int .u32 1]) (w' := w.alloc (.cells #[.int .u32 1] 129)) (Nat.zero_le _) (box_new w _) rfl ⟨rfl, wf_u32.2 (by omega)⟩)
end Go.Proofs.YtopdfijojjbjdaaGreat
