/- Texts of one claim, put together: RatA, RatB, RatC, RatD, RatE, Due. -/
import Derived.Test.YtkjgddcjhikdgaaKGNatR
import Derived.Deep.RegionLaw
import Derived.Deep.RegionHeld3

/- Ratios: side, size, lowest, Of, of the program and of the reference. -/
namespace Go.Proofs.Ytkjgddcjhikdgaa
open Go Go.RowKit Go.Shelf Limb

theorem RU.avoid {S : Nat → Prop} {w : World} {v : Value} {xs : List Int} {g : Nat} {cs : Array Value} {e : TypeId} (h : RU S w v xs) (hg : w.heap[g]? = some (.cells cs e (0, 0))) (hne : ∀ (i : Nat) (x : Int), cs[i]? ≠ some (Value.int .u32 x)) : RU (fun b => b ≠ g) w v xs := by
  have h0 := h
  obtain ⟨a, cap, cells, rfl, h1, h2, h3, h4⟩ := h
  refine ⟨a, cap, cells, rfl, h1, h2, h3, ?_⟩
  rcases h4 with h4 | ⟨b, off, rfl, hS, hc⟩
  · exact .inl h4
  · rcases Nat.eq_zero_or_pos xs.length with hz | hz
    · exact .inl (List.eq_nil_of_length_eq_zero hz)
    · refine .inr ⟨b, off, rfl, ?_, hc⟩
      rintro rfl
      obtain ⟨b', off', e1, -, -, hc2, -, -⟩ := RU.at h0 (i := 0) hz
      simp only [Option.some.injEq, Addr.mk.injEq, and_true] at e1
      obtain ⟨rfl, rfl⟩ := e1
      simp only [World.cell?, hg] at hc2
      exact hne _ _ (by simpa using hc2)
/-- A number kept by stores to a block of other cells. -/
theorem NumAt.kept {w w' : World} {v : Value} {n g : Nat} {cs : Array Value} {e : TypeId} (h : NumAt w v n) (hg : w.heap[g]? = some (.cells cs e (0, 0))) (hne : ∀ (i : Nat) (x : Int), cs[i]? ≠ some (Value.int .u32 x)) (hs : Same (fun b => b ≠ g) w w') : NumAt w' v n :=
  NumAt.of ((h.ru.avoid hg hne).same hs)
end Go.Proofs.Ytkjgddcjhikdgaa
