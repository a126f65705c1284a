/-
  No cell of these rows narrows 'for every input' (looked for: loops, veiled, ifaces, maps, wideKeys, modest, calm, conditions, laid).
  DERIVED. THE GIVEN ROWS OF THIS SEAT. 7 by the template 'for every input the law returns true; each argument reads behind the call as it read before'; 0 by the template 'total and deterministic' (their statements: YtakcgoehnkognaaGreatTotals.lean).
  GIVEN WITH THE SEED: the statements are not yours to turn. If you find one false, say at which input.
  Laid BY PROGRAM, IN A SANDBOX (cutbox-rows.mjs): the forced cells as the released guide's own fill.sh prints them over the translation 9b5dfc487c2ebb57… (all of the seat's roots in one cut). By AI agents, Wed Nov 11 2026. No macro, syntax, notation, axiom, sorry.
-/
import Derived.Test.YtakcgoehnkognaaGreatChecked
import GoSem.Claim
import GoSem.ClaimJoined
import GoSem.ClaimMapViews
import Derived.JoinedTies
import Derived.KernelRfl
namespace Go.Proofs.YtakcgoehnkognaaGreat
/- THE CELL 'sum', in the pinned program and in every row, IS THE sha256 OF THE DUMP (.gsa) THAT YtakcgoehnkognaaGreatProg.lean LOADS. Nothing in Lean hashes anything: it is a label: what it is worth is what the hold of that sum in a sandbox is worth. -/
noncomputable def Tryz.pinned : Pinned := { name := "ytakcgoehnkognaagreat", sum := "9b5dfc487c2ebb579127a97f739efb4bc2cd90d8b31f4cc9861837125df40d77", checked := Tryz.checked }
namespace Rows
def none {H : Type} : Left H := { results := [], args := [] }

/-- 'suffragelaw18.GregoryTells': WHATEVER THE INPUT: true; the input reads as it did. -/
def gregoryTellsSpec : ChangeSpec := { name := "gregoryTells", fn := fun _ => fun
  | [d1, d2, d3, d4, d5, d6] => { results := [.lit (.bool true)], args := [d1, d2, d3, d4, d5, d6] }
  | _ => none }
def gregoryTellsRow : OpenClaim := { program := "ytakcgoehnkognaagreat", sum := "9b5dfc487c2ebb579127a97f739efb4bc2cd90d8b31f4cc9861837125df40d77", func := "suffrage/suffragelaw18.GregoryTells", spec := "gregoryTells", unfollowed := true, recurses := true, named := ["math/bits.overflowError", "math/bits.divideError"], apart := false }
def GregoryTellsSaid : Prop := gregoryTellsRow.holds Tryz.pinned (OpenSpec.ofChange gregoryTellsSpec)

/-- ITS FALSE NEIGHBOUR: 'it returns false'. Refute it at one input. -/
def gregoryTellsWrong : ChangeSpec := { name := "gregoryTells", fn := fun _ => fun
  | [d1, d2, d3, d4, d5, d6] => { results := [.lit (.bool false)], args := [d1, d2, d3, d4, d5, d6] }
  | _ => none }
def GregoryTellsWrongFalsely : Prop := gregoryTellsRow.holds Tryz.pinned (OpenSpec.ofChange gregoryTellsWrong)

/-- 'suffragelaw18.GregorySolid': WHATEVER THE INPUT: true; the input reads as it did. -/
def gregorySolidSpec : ChangeSpec := { name := "gregorySolid", fn := fun _ => fun
  | [d1, d2, d3, d4] => { results := [.lit (.bool true)], args := [d1, d2, d3, d4] }
  | _ => none }
def gregorySolidRow : OpenClaim := { program := "ytakcgoehnkognaagreat", sum := "9b5dfc487c2ebb579127a97f739efb4bc2cd90d8b31f4cc9861837125df40d77", func := "suffrage/suffragelaw18.GregorySolid", spec := "gregorySolid", unfollowed := true, recurses := true, named := ["math/bits.overflowError", "math/bits.divideError"], apart := false }
def GregorySolidSaid : Prop := gregorySolidRow.holds Tryz.pinned (OpenSpec.ofChange gregorySolidSpec)

/-- ITS FALSE NEIGHBOUR: 'it returns false'. Refute it at one input. -/
def gregorySolidWrong : ChangeSpec := { name := "gregorySolid", fn := fun _ => fun
  | [d1, d2, d3, d4] => { results := [.lit (.bool false)], args := [d1, d2, d3, d4] }
  | _ => none }
def GregorySolidWrongFalsely : Prop := gregorySolidRow.holds Tryz.pinned (OpenSpec.ofChange gregorySolidWrong)

/-- 'suffragelaw18.GregorySeats': WHATEVER THE INPUT: true; the input reads as it did. -/
def gregorySeatsSpec : ChangeSpec := { name := "gregorySeats", fn := fun _ => fun
  | [d1, d2, d3] => { results := [.lit (.bool true)], args := [d1, d2, d3] }
  | _ => none }
def gregorySeatsRow : OpenClaim := { program := "ytakcgoehnkognaagreat", sum := "9b5dfc487c2ebb579127a97f739efb4bc2cd90d8b31f4cc9861837125df40d77", func := "suffrage/suffragelaw18.GregorySeats", spec := "gregorySeats", unfollowed := true, recurses := true, named := ["math/bits.overflowError", "math/bits.divideError"], apart := false }
def GregorySeatsSaid : Prop := gregorySeatsRow.holds Tryz.pinned (OpenSpec.ofChange gregorySeatsSpec)

/-- ITS FALSE NEIGHBOUR: 'it returns false'. Refute it at one input. -/
def gregorySeatsWrong : ChangeSpec := { name := "gregorySeats", fn := fun _ => fun
  | [d1, d2, d3] => { results := [.lit (.bool false)], args := [d1, d2, d3] }
  | _ => none }
def GregorySeatsWrongFalsely : Prop := gregorySeatsRow.holds Tryz.pinned (OpenSpec.ofChange gregorySeatsWrong)

/-- 'suffragelaw18.GregorySum': WHATEVER THE INPUT: true; the input reads as it did. -/
def gregorySumSpec : ChangeSpec := { name := "gregorySum", fn := fun _ => fun
  | [d1, d2, d3] => { results := [.lit (.bool true)], args := [d1, d2, d3] }
  | _ => none }
def gregorySumRow : OpenClaim := { program := "ytakcgoehnkognaagreat", sum := "9b5dfc487c2ebb579127a97f739efb4bc2cd90d8b31f4cc9861837125df40d77", func := "suffrage/suffragelaw18.GregorySum", spec := "gregorySum", unfollowed := true, recurses := true, named := ["math/bits.overflowError", "math/bits.divideError"], apart := false }
def GregorySumSaid : Prop := gregorySumRow.holds Tryz.pinned (OpenSpec.ofChange gregorySumSpec)

/-- ITS FALSE NEIGHBOUR: 'it returns false'. Refute it at one input. -/
def gregorySumWrong : ChangeSpec := { name := "gregorySum", fn := fun _ => fun
  | [d1, d2, d3] => { results := [.lit (.bool false)], args := [d1, d2, d3] }
  | _ => none }
def GregorySumWrongFalsely : Prop := gregorySumRow.holds Tryz.pinned (OpenSpec.ofChange gregorySumWrong)

/-- 'suffragelaw18.GregoryRounds': WHATEVER THE INPUT: true; the input reads as it did. -/
def gregoryRoundsSpec : ChangeSpec := { name := "gregoryRounds", fn := fun _ => fun
  | [d1, d2, d3] => { results := [.lit (.bool true)], args := [d1, d2, d3] }
  | _ => none }
def gregoryRoundsRow : OpenClaim := { program := "ytakcgoehnkognaagreat", sum := "9b5dfc487c2ebb579127a97f739efb4bc2cd90d8b31f4cc9861837125df40d77", func := "suffrage/suffragelaw18.GregoryRounds", spec := "gregoryRounds", unfollowed := true, recurses := true, named := ["math/bits.overflowError", "math/bits.divideError"], apart := false }
def GregoryRoundsSaid : Prop := gregoryRoundsRow.holds Tryz.pinned (OpenSpec.ofChange gregoryRoundsSpec)

/-- ITS FALSE NEIGHBOUR: 'it returns false'. Refute it at one input. -/
def gregoryRoundsWrong : ChangeSpec := { name := "gregoryRounds", fn := fun _ => fun
  | [d1, d2, d3] => { results := [.lit (.bool false)], args := [d1, d2, d3] }
  | _ => none }
def GregoryRoundsWrongFalsely : Prop := gregoryRoundsRow.holds Tryz.pinned (OpenSpec.ofChange gregoryRoundsWrong)

/-- 'suffragelaw18.GregoryPass': WHATEVER THE INPUT: true; the input reads as it did. -/
def gregoryPassSpec : ChangeSpec := { name := "gregoryPass", fn := fun _ => fun
  | [d1, d2, d3] => { results := [.lit (.bool true)], args := [d1, d2, d3] }
  | _ => none }
def gregoryPassRow : OpenClaim := { program := "ytakcgoehnkognaagreat", sum := "9b5dfc487c2ebb579127a97f739efb4bc2cd90d8b31f4cc9861837125df40d77", func := "suffrage/suffragelaw18.GregoryPass", spec := "gregoryPass", unfollowed := true, recurses := true, named := ["math/bits.divideError", "math/bits.overflowError"], apart := false }
def GregoryPassSaid : Prop := gregoryPassRow.holds Tryz.pinned (OpenSpec.ofChange gregoryPassSpec)

/-- ITS FALSE NEIGHBOUR: 'it returns false'. Refute it at one input. -/
def gregoryPassWrong : ChangeSpec := { name := "gregoryPass", fn := fun _ => fun
  | [d1, d2, d3] => { results := [.lit (.bool false)], args := [d1, d2, d3] }
  | _ => none }
def GregoryPassWrongFalsely : Prop := gregoryPassRow.holds Tryz.pinned (OpenSpec.ofChange gregoryPassWrong)

/-- 'suffragelaw18.GregoryNames': WHATEVER THE INPUT: true; the input reads as it did. -/
def gregoryNamesSpec : ChangeSpec := { name := "gregoryNames", fn := fun _ => fun
  | [d1, d2, d3, d4] => { results := [.lit (.bool true)], args := [d1, d2, d3, d4] }
  | _ => none }
def gregoryNamesRow : OpenClaim := { program := "ytakcgoehnkognaagreat", sum := "9b5dfc487c2ebb579127a97f739efb4bc2cd90d8b31f4cc9861837125df40d77", func := "suffrage/suffragelaw18.GregoryNames", spec := "gregoryNames", inPlace := ["slices.overlaps[suffrage/api.Row]"], unfollowed := true, recurses := true, named := ["math/bits.overflowError", "math/bits.divideError"], apart := false }
def GregoryNamesSaid : Prop := gregoryNamesRow.holds Tryz.pinned (OpenSpec.ofChange gregoryNamesSpec)

/-- ITS FALSE NEIGHBOUR: 'it returns false'. Refute it at one input. -/
def gregoryNamesWrong : ChangeSpec := { name := "gregoryNames", fn := fun _ => fun
  | [d1, d2, d3, d4] => { results := [.lit (.bool false)], args := [d1, d2, d3, d4] }
  | _ => none }
def GregoryNamesWrongFalsely : Prop := gregoryNamesRow.holds Tryz.pinned (OpenSpec.ofChange gregoryNamesWrong)

/- THE SECOND FORM. 'bulk': how many values and letters a reading holds, each counted each time it is reached (what is shared counts as often as it is met; a slice's spare places count too). A statement '..UptoSaid' is the law's where the arguments, and the package variables that the reading takes, are together of bulk at most 1048576: NARROWER than '..Said'. Prove '..Said' where nothing that the law and all that it calls make is longer than what came in: it says more and counts as full. Else prove '..UptoSaid'. A law counts once. -/
mutual
def uptoBulk {H : Type} : DataW H → Nat
  | .lit (.string bytes) => bytes.length + 1
  | .lit _ => 1
  | .nil => 1
  | .ptr d => uptoBulk d + 1
  | .slice elems spare => uptoBulkAll elems + uptoBulkAll spare + 1
  | .agg parts => uptoBulkAll parts + 1
  | .iface _ d => uptoBulk d + 1
  | .map entries => uptoBulkEntries entries + 1
  | .held _ => 1
def uptoBulkAll {H : Type} : List (DataW H) → Nat
  | [] => 0
  | d :: r => uptoBulk d + uptoBulkAll r
def uptoBulkEntries {H : Type} : List (Lit × DataW H) → Nat
  | [] => 0
  | x :: r => uptoBulkEntry x + uptoBulkEntries r
def uptoBulkEntry {H : Type} : Lit × DataW H → Nat
  | (.string bytes, d) => bytes.length + uptoBulk d + 1
  | (_, d) => uptoBulk d + 1
 end
def uptoSmall : (H : Type) → List (DataW H) → Bool := fun _ ds => decide (uptoBulkAll ds ≤ 1048576)
def OpenSpec.upto (s : _root_.Go.ChangeSpec) : _root_.Go.OpenSpec := { _root_.Go.OpenSpec.ofChange s with cond := some uptoSmall }

/-- 'suffragelaw18.GregoryTells', WHERE WHAT IT READS IS OF BULK AT MOST 1048576: true; the input reads as it did. -/
def gregoryTellsUptoRow : OpenClaim := { program := "ytakcgoehnkognaagreat", sum := "9b5dfc487c2ebb579127a97f739efb4bc2cd90d8b31f4cc9861837125df40d77", func := "suffrage/suffragelaw18.GregoryTells", spec := "gregoryTells", unfollowed := true, recurses := true, named := ["math/bits.overflowError", "math/bits.divideError"], apart := false, narrowed := true }
def GregoryTellsUptoSaid : Prop := gregoryTellsUptoRow.holds Tryz.pinned (OpenSpec.upto gregoryTellsSpec)

/-- 'suffragelaw18.GregorySolid', WHERE WHAT IT READS IS OF BULK AT MOST 1048576: true; the input reads as it did. -/
def gregorySolidUptoRow : OpenClaim := { program := "ytakcgoehnkognaagreat", sum := "9b5dfc487c2ebb579127a97f739efb4bc2cd90d8b31f4cc9861837125df40d77", func := "suffrage/suffragelaw18.GregorySolid", spec := "gregorySolid", unfollowed := true, recurses := true, named := ["math/bits.overflowError", "math/bits.divideError"], apart := false, narrowed := true }
def GregorySolidUptoSaid : Prop := gregorySolidUptoRow.holds Tryz.pinned (OpenSpec.upto gregorySolidSpec)

/-- 'suffragelaw18.GregorySeats', WHERE WHAT IT READS IS OF BULK AT MOST 1048576: true; the input reads as it did. -/
def gregorySeatsUptoRow : OpenClaim := { program := "ytakcgoehnkognaagreat", sum := "9b5dfc487c2ebb579127a97f739efb4bc2cd90d8b31f4cc9861837125df40d77", func := "suffrage/suffragelaw18.GregorySeats", spec := "gregorySeats", unfollowed := true, recurses := true, named := ["math/bits.overflowError", "math/bits.divideError"], apart := false, narrowed := true }
def GregorySeatsUptoSaid : Prop := gregorySeatsUptoRow.holds Tryz.pinned (OpenSpec.upto gregorySeatsSpec)

/-- 'suffragelaw18.GregorySum', WHERE WHAT IT READS IS OF BULK AT MOST 1048576: true; the input reads as it did. -/
def gregorySumUptoRow : OpenClaim := { program := "ytakcgoehnkognaagreat", sum := "9b5dfc487c2ebb579127a97f739efb4bc2cd90d8b31f4cc9861837125df40d77", func := "suffrage/suffragelaw18.GregorySum", spec := "gregorySum", unfollowed := true, recurses := true, named := ["math/bits.overflowError", "math/bits.divideError"], apart := false, narrowed := true }
def GregorySumUptoSaid : Prop := gregorySumUptoRow.holds Tryz.pinned (OpenSpec.upto gregorySumSpec)

/-- 'suffragelaw18.GregoryRounds', WHERE WHAT IT READS IS OF BULK AT MOST 1048576: true; the input reads as it did. -/
def gregoryRoundsUptoRow : OpenClaim := { program := "ytakcgoehnkognaagreat", sum := "9b5dfc487c2ebb579127a97f739efb4bc2cd90d8b31f4cc9861837125df40d77", func := "suffrage/suffragelaw18.GregoryRounds", spec := "gregoryRounds", unfollowed := true, recurses := true, named := ["math/bits.overflowError", "math/bits.divideError"], apart := false, narrowed := true }
def GregoryRoundsUptoSaid : Prop := gregoryRoundsUptoRow.holds Tryz.pinned (OpenSpec.upto gregoryRoundsSpec)

/-- 'suffragelaw18.GregoryPass', WHERE WHAT IT READS IS OF BULK AT MOST 1048576: true; the input reads as it did. -/
def gregoryPassUptoRow : OpenClaim := { program := "ytakcgoehnkognaagreat", sum := "9b5dfc487c2ebb579127a97f739efb4bc2cd90d8b31f4cc9861837125df40d77", func := "suffrage/suffragelaw18.GregoryPass", spec := "gregoryPass", unfollowed := true, recurses := true, named := ["math/bits.divideError", "math/bits.overflowError"], apart := false, narrowed := true }
def GregoryPassUptoSaid : Prop := gregoryPassUptoRow.holds Tryz.pinned (OpenSpec.upto gregoryPassSpec)

/-- 'suffragelaw18.GregoryNames', WHERE WHAT IT READS IS OF BULK AT MOST 1048576: true; the input reads as it did. -/
def gregoryNamesUptoRow : OpenClaim := { program := "ytakcgoehnkognaagreat", sum := "9b5dfc487c2ebb579127a97f739efb4bc2cd90d8b31f4cc9861837125df40d77", func := "suffrage/suffragelaw18.GregoryNames", spec := "gregoryNames", inPlace := ["slices.overlaps[suffrage/api.Row]"], unfollowed := true, recurses := true, named := ["math/bits.overflowError", "math/bits.divideError"], apart := false, narrowed := true }
def GregoryNamesUptoSaid : Prop := gregoryNamesUptoRow.holds Tryz.pinned (OpenSpec.upto gregoryNamesSpec)

end Rows
end Go.Proofs.YtakcgoehnkognaaGreat
