/- Texts of one claim, put together: RefA, Push, RefB, RefC, RefD, RefE, RefF, RefG. -/
import Derived.Test.YtkjgddcjhikdgaaKGNat

/- The reference's natural numbers: Check, Both, at, Trim, less, Same. -/
namespace Go.Proofs.Ytkjgddcjhikdgaa
open Go Go.RowKit Go.Shelf Limb

theorem RU.from {a b : Nat} {w : World} {v : Value} {xs : List Int} (h : RU (From b) w v xs) (hab : a ≤ b) : RU (From a) w v xs := RSl.mono (fun _ _ _ h => h) (fun _ h => Nat.le_trans hab h) h
end Go.Proofs.Ytkjgddcjhikdgaa

/- One number appended to a row of the call's own. -/
namespace Go.Proofs.Ytkjgddcjhikdgaa
open Go Go.RowKit Go.Shelf Limb

def OwnU (base : Nat) (w : World) (v : Value) (xs : List Int) : Prop := Own base 197 1 (dInt .u32) w v xs
theorem OwnU.nil (base : Nat) (w : World) : OwnU base w (.slice none 0 0) [] := Own.nil _ _ _ _ _
theorem OwnU.below {base : Nat} {w w' : World} {v : Value} {xs : List Int} (h : OwnU base w v xs) (hb : Below w.heap.size w w') : OwnU base w' v xs := Own.below (S := fun _ => False) (dInt.stable _ _) h hb
theorem OwnU.shape {base : Nat} {w : World} {v : Value} {xs : List Int} (h : OwnU base w v xs) : ∃ a c, v = .slice a xs.length c := Own.shape h
theorem OwnU.ru {base : Nat} {w : World} {v : Value} {xs : List Int} (h : OwnU base w v xs) (hl : xs.length ≤ 140737488355328) : RU Any w v xs :=
  RSl.mono (fun _ _ _ h => h) (fun _ _ => trivial) (Own.rsl h hl)
end Go.Proofs.Ytkjgddcjhikdgaa

/- The reference's natural numbers: Div. -/
namespace Go.Proofs.Ytkjgddcjhikdgaa
open Go Go.RowKit Go.Shelf Limb

theorem NumAt.one (w : World) : RU Any (w.alloc (.cells #[.int .u32 1] 197)) (.slice (some ⟨w.heap.size, 0, none⟩) 1 1) [1] :=
  RSl.mono (fun _ _ _ h => h) (fun _ _ => trivial) (RSl.built (lo := 0) (cs := [.int .u32 1]) (w' := w.alloc (.cells #[.int .u32 1] 197)) (Nat.zero_le _) (box_new w _) rfl ⟨rfl, wf_u32.2 (by omega)⟩)
end Go.Proofs.Ytkjgddcjhikdgaa
