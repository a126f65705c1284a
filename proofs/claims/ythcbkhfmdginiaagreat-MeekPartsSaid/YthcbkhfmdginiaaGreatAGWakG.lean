/- Texts of one claim, put together: WakG, WakH, LawG, LawSNamC. -/
import Derived.Test.YthcbkhfmdginiaaGreatAGGreM
import Derived.Test.YthcbkhfmdginiaaGreatAGR18
import Derived.Test.YthcbkhfmdginiaaGreatAGSam
import Derived.Test.YthcbkhfmdginiaaGreatAGRul
import Derived.Test.YthcbkhfmdginiaaGreatAGOne
import Derived.Test.YthcbkhfmdginiaaGreatAGGreA

namespace Go.Proofs.YthcbkhfmdginiaaGreat
section
open Go Go.RowKit Go.Shelf Limb

def mayG (p : Prof) (seats : Int) (lot : List Int) : Bool := rankI p seats lot == 0
theorem ApartV.symm {u v : Value} (h : ApartV u v) : ApartV v u := fun b hb e => h b e hb
theorem ApartV.nil (v : Value) : ApartV v (.slice none 0 0) := fun _ _ e => by cases e
section
variable {P : Program} (w : World)
end
end

section
open Go Go.RowKit Go.Shelf

def CntR (wr : World) (o : Outc) (s1 s2 : Value) (wc : World) : Prop :=
 ∃ g b1 n1 c1 b2 n2 c2 b3 n3 c3, s1 = .pointer (some ⟨g, 0, none⟩) ∧ s2 = .int .i64 0 ∧ wc.heap[g]? = some (.cells #[.slice b1 n1 c1, .slice b2 n2 c2, .slice b3 n3 c3] 32 (0, 0)) ∧ VOutc Any wc (.agg #[.slice b1 n1 c1, .slice b2 n2 c2, .slice b3 n3 c3]) o ∧ Below wr.heap.size wr wc
theorem CntR.stored {wr w4 : World} {o : Outc} {g : Nat} {b1 b2 b3 : Option Addr} {n1 c1 n2 c2 n3 c3 : Nat} {cs : Array Value} (hcs : cs = #[.slice none 0 0, .slice none 0 0, .slice none 0 0]) (hg : w4.heap[g]? = some (.cells cs 32 (0, 0)))
  (hv : VOutc (fun b => b ≠ g) w4 (.agg #[.slice b1 n1 c1, .slice b2 n2 c2, .slice b3 n3 c3]) o) (hb : Below wr.heap.size wr w4) (hgw : wr.heap.size ≤ g) :
  CntR wr o (.pointer (some ⟨g, 0, none⟩)) (.int .i64 0) (((w4.setCell ⟨g, 0, none⟩ (.slice b1 n1 c1)).setCell ⟨g, 1, none⟩ (.slice b2 n2 c2)).setCell ⟨g, 2, none⟩ (.slice b3 n3 c3)) := by
 subst hcs
 refine ⟨g, b1, n1, c1, b2, n2, c2, b3, n3, c3, rfl, rfl, ?_, ?_, ((hb.setCell (p := ⟨g, 0, none⟩) hgw _).setCell (p := ⟨g, 1, none⟩) hgw _).setCell (p := ⟨g, 2, none⟩) hgw _⟩
 ·have := qa2 (o := 2) (qa2 (o := 1) (qa2 (o := 0) hg (.slice b1 n1 c1)) (.slice b2 n2 c2)) (.slice b3 n3 c3)
  simpa using this
 ·exact VOutc.mono (fun _ _ => trivial) (hv.same ((((Same.refl _ _).setCell (p := ⟨g, 0, none⟩) (by simp) _).setCell (p := ⟨g, 1, none⟩) (by simp) _).setCell (p := ⟨g, 2, none⟩) (by simp) _))
theorem CntR.late {wr w4 : World} {o : Outc} {b1 b2 b3 : Option Addr} {n1 c1 n2 c2 n3 c3 : Nat} {S : Nat → Prop} (hv : VOutc S w4 (.agg #[.slice b1 n1 c1, .slice b2 n2 c2, .slice b3 n3 c3]) o) (hb : Below wr.heap.size wr w4) :
  CntR wr o (.pointer (some ⟨w4.heap.size, 0, none⟩)) (.int .i64 0) ((((w4.alloc (.cells #[.slice none 0 0, .slice none 0 0, .slice none 0 0] 32)).setCell ⟨w4.heap.size, 0, none⟩ (.slice b1 n1 c1)).setCell ⟨w4.heap.size, 1, none⟩ (.slice b2 n2 c2)).setCell ⟨w4.heap.size, 2, none⟩ (.slice b3 n3 c3)) :=
 CntR.stored rfl (qa9 w4 _) ((VOutc.mono (fun b hb => by have := hb.2; omega) hv.cut).same (.of_below (qa1 _ _))) (hb.alloc hb.size _) hb.size
theorem CntR.laid {wr w4 : World} {o : Outc} {b1 b2 b3 : Option Addr} {n1 c1 n2 c2 n3 c3 : Nat} {S : Nat → Prop} (hv : VOutc S w4 (.agg #[.slice b1 n1 c1, .slice b2 n2 c2, .slice b3 n3 c3]) o) (hb : Below wr.heap.size wr w4) :
  CntR wr o (.pointer (some ⟨w4.heap.size, 0, none⟩)) (.int .i64 0) (w4.alloc (.cells #[.slice b1 n1 c1, .slice b2 n2 c2, .slice b3 n3 c3] 32)) :=
 ⟨w4.heap.size, b1, n1, c1, b2, n2, c2, b3, n3, c3, rfl, rfl, qa9 _ _, VOutc.mono (fun _ _ => trivial) (hv.same (.of_below (qa1 _ _))), hb.alloc hb.size _⟩
end
end Go.Proofs.YthcbkhfmdginiaaGreat
