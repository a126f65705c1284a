/-
  No cell of these rows narrows 'for every input' (looked for: loops, veiled, ifaces, maps, wideKeys, modest, calm, conditions, laid).
  DERIVED. THE GIVEN ROWS OF THIS SEAT. 10 by the template 'for every input the law returns true; each argument reads behind the call as it read before'; 0 by the template 'total and deterministic' (their statements: YthcbkhfmdginiaaGreatTotals.lean).
  GIVEN WITH THE SEED: the statements are not yours to turn. If you find one false, say at which input.
  Laid BY PROGRAM, IN A SANDBOX (cutbox-rows.mjs): the forced cells as the released guide's own fill.sh prints them over the translation 5a09b43b8c8f3a6b… (all of the seat's roots in one cut). By AI agents, Wed Nov 11 2026. No macro, syntax, notation, axiom, sorry.
-/
import Derived.Test.YthcbkhfmdginiaaGreatChecked
import GoSem.Claim
import GoSem.ClaimJoined
import GoSem.ClaimMapViews
import Derived.JoinedTies
import Derived.KernelRfl
namespace Go.Proofs.YthcbkhfmdginiaaGreat
/- THE CELL 'sum', in the pinned program and in every row, IS THE sha256 OF THE DUMP (.gsa) THAT YthcbkhfmdginiaaGreatProg.lean LOADS. Nothing in Lean hashes anything: it is a label: what it is worth is what the hold of that sum in a sandbox is worth. -/
noncomputable def Tryz.pinned : Pinned := { name := "ythcbkhfmdginiaagreat", sum := "5a09b43b8c8f3a6bff8857b1d522e881b1de459ea9c420bd647bd419d7cd10f0", checked := Tryz.checked }
namespace Rows
def none {H : Type} : Left H := { results := [], args := [] }

/-- 'suffragelaw18.GregoryTells': WHATEVER THE INPUT: true; the input reads as it did. -/
def gregoryTellsSpec : ChangeSpec := { name := "gregoryTells", fn := fun _ => fun
  | [d1, d2, d3, d4, d5, d6] => { results := [.lit (.bool true)], args := [d1, d2, d3, d4, d5, d6] }
  | _ => none }
def gregoryTellsRow : OpenClaim := { program := "ythcbkhfmdginiaagreat", sum := "5a09b43b8c8f3a6bff8857b1d522e881b1de459ea9c420bd647bd419d7cd10f0", func := "suffrage/suffragelaw18.GregoryTells", spec := "gregoryTells", unfollowed := true, recurses := true, named := ["math/bits.overflowError", "math/bits.divideError"], apart := false }
def GregoryTellsSaid : Prop := gregoryTellsRow.holds Tryz.pinned (OpenSpec.ofChange gregoryTellsSpec)

/-- ITS FALSE NEIGHBOUR: 'it returns false'. Refute it at one input. -/
def gregoryTellsWrong : ChangeSpec := { name := "gregoryTells", fn := fun _ => fun
  | [d1, d2, d3, d4, d5, d6] => { results := [.lit (.bool false)], args := [d1, d2, d3, d4, d5, d6] }
  | _ => none }
def GregoryTellsWrongFalsely : Prop := gregoryTellsRow.holds Tryz.pinned (OpenSpec.ofChange gregoryTellsWrong)

/-- 'suffragelaw19.MeekNames': WHATEVER THE INPUT: true; the input reads as it did. -/
def meekNamesSpec : ChangeSpec := { name := "meekNames", fn := fun _ => fun
  | [d1, d2, d3, d4] => { results := [.lit (.bool true)], args := [d1, d2, d3, d4] }
  | _ => none }
def meekNamesRow : OpenClaim := { program := "ythcbkhfmdginiaagreat", sum := "5a09b43b8c8f3a6bff8857b1d522e881b1de459ea9c420bd647bd419d7cd10f0", func := "suffrage/suffragelaw19.MeekNames", spec := "meekNames", inPlace := ["slices.overlaps[suffrage/api.Row]"], unfollowed := true, recurses := true, named := ["math/bits.divideError", "math/bits.overflowError"], apart := false }
def MeekNamesSaid : Prop := meekNamesRow.holds Tryz.pinned (OpenSpec.ofChange meekNamesSpec)

/-- ITS FALSE NEIGHBOUR: 'it returns false'. Refute it at one input. -/
def meekNamesWrong : ChangeSpec := { name := "meekNames", fn := fun _ => fun
  | [d1, d2, d3, d4] => { results := [.lit (.bool false)], args := [d1, d2, d3, d4] }
  | _ => none }
def MeekNamesWrongFalsely : Prop := meekNamesRow.holds Tryz.pinned (OpenSpec.ofChange meekNamesWrong)

/-- 'suffragelaw19.MeekTells': WHATEVER THE INPUT: true; the input reads as it did. -/
def meekTellsSpec : ChangeSpec := { name := "meekTells", fn := fun _ => fun
  | [d1, d2, d3] => { results := [.lit (.bool true)], args := [d1, d2, d3] }
  | _ => none }
def meekTellsRow : OpenClaim := { program := "ythcbkhfmdginiaagreat", sum := "5a09b43b8c8f3a6bff8857b1d522e881b1de459ea9c420bd647bd419d7cd10f0", func := "suffrage/suffragelaw19.MeekTells", spec := "meekTells", unfollowed := true, recurses := true, named := ["math/bits.divideError", "math/bits.overflowError"], apart := false }
def MeekTellsSaid : Prop := meekTellsRow.holds Tryz.pinned (OpenSpec.ofChange meekTellsSpec)

/-- ITS FALSE NEIGHBOUR: 'it returns false'. Refute it at one input. -/
def meekTellsWrong : ChangeSpec := { name := "meekTells", fn := fun _ => fun
  | [d1, d2, d3] => { results := [.lit (.bool false)], args := [d1, d2, d3] }
  | _ => none }
def MeekTellsWrongFalsely : Prop := meekTellsRow.holds Tryz.pinned (OpenSpec.ofChange meekTellsWrong)

/-- 'suffragelaw19.MeekDoes': WHATEVER THE INPUT: true; the input reads as it did. -/
def meekDoesSpec : ChangeSpec := { name := "meekDoes", fn := fun _ => fun
  | [d1, d2, d3, d4, d5, d6, d7, d8] => { results := [.lit (.bool true)], args := [d1, d2, d3, d4, d5, d6, d7, d8] }
  | _ => none }
def meekDoesRow : OpenClaim := { program := "ythcbkhfmdginiaagreat", sum := "5a09b43b8c8f3a6bff8857b1d522e881b1de459ea9c420bd647bd419d7cd10f0", func := "suffrage/suffragelaw19.MeekDoes", spec := "meekDoes", unfollowed := true, recurses := true, named := ["math/bits.divideError", "math/bits.overflowError"], apart := false }
def MeekDoesSaid : Prop := meekDoesRow.holds Tryz.pinned (OpenSpec.ofChange meekDoesSpec)

/-- ITS FALSE NEIGHBOUR: 'it returns false'. Refute it at one input. -/
def meekDoesWrong : ChangeSpec := { name := "meekDoes", fn := fun _ => fun
  | [d1, d2, d3, d4, d5, d6, d7, d8] => { results := [.lit (.bool false)], args := [d1, d2, d3, d4, d5, d6, d7, d8] }
  | _ => none }
def MeekDoesWrongFalsely : Prop := meekDoesRow.holds Tryz.pinned (OpenSpec.ofChange meekDoesWrong)

/-- 'suffragelaw19.MeekSeats': WHATEVER THE INPUT: true; the input reads as it did. -/
def meekSeatsSpec : ChangeSpec := { name := "meekSeats", fn := fun _ => fun
  | [d1, d2, d3] => { results := [.lit (.bool true)], args := [d1, d2, d3] }
  | _ => none }
def meekSeatsRow : OpenClaim := { program := "ythcbkhfmdginiaagreat", sum := "5a09b43b8c8f3a6bff8857b1d522e881b1de459ea9c420bd647bd419d7cd10f0", func := "suffrage/suffragelaw19.MeekSeats", spec := "meekSeats", unfollowed := true, recurses := true, named := ["math/bits.divideError", "math/bits.overflowError"], apart := false }
def MeekSeatsSaid : Prop := meekSeatsRow.holds Tryz.pinned (OpenSpec.ofChange meekSeatsSpec)

/-- ITS FALSE NEIGHBOUR: 'it returns false'. Refute it at one input. -/
def meekSeatsWrong : ChangeSpec := { name := "meekSeats", fn := fun _ => fun
  | [d1, d2, d3] => { results := [.lit (.bool false)], args := [d1, d2, d3] }
  | _ => none }
def MeekSeatsWrongFalsely : Prop := meekSeatsRow.holds Tryz.pinned (OpenSpec.ofChange meekSeatsWrong)

/-- 'suffragelaw19.MeekParts': WHATEVER THE INPUT: true; the input reads as it did. -/
def meekPartsSpec : ChangeSpec := { name := "meekParts", fn := fun _ => fun
  | [d1, d2] => { results := [.lit (.bool true)], args := [d1, d2] }
  | _ => none }
def meekPartsRow : OpenClaim := { program := "ythcbkhfmdginiaagreat", sum := "5a09b43b8c8f3a6bff8857b1d522e881b1de459ea9c420bd647bd419d7cd10f0", func := "suffrage/suffragelaw19.MeekParts", spec := "meekParts", unfollowed := true, recurses := true, named := ["math/bits.divideError", "math/bits.overflowError"], apart := false }
def MeekPartsSaid : Prop := meekPartsRow.holds Tryz.pinned (OpenSpec.ofChange meekPartsSpec)

/-- ITS FALSE NEIGHBOUR: 'it returns false'. Refute it at one input. -/
def meekPartsWrong : ChangeSpec := { name := "meekParts", fn := fun _ => fun
  | [d1, d2] => { results := [.lit (.bool false)], args := [d1, d2] }
  | _ => none }
def MeekPartsWrongFalsely : Prop := meekPartsRow.holds Tryz.pinned (OpenSpec.ofChange meekPartsWrong)

/-- 'suffragelaw19.MeekSolid': WHATEVER THE INPUT: true; the input reads as it did. -/
def meekSolidSpec : ChangeSpec := { name := "meekSolid", fn := fun _ => fun
  | [d1, d2, d3, d4] => { results := [.lit (.bool true)], args := [d1, d2, d3, d4] }
  | _ => none }
def meekSolidRow : OpenClaim := { program := "ythcbkhfmdginiaagreat", sum := "5a09b43b8c8f3a6bff8857b1d522e881b1de459ea9c420bd647bd419d7cd10f0", func := "suffrage/suffragelaw19.MeekSolid", spec := "meekSolid", unfollowed := true, recurses := true, named := ["math/bits.divideError", "math/bits.overflowError"], apart := false }
def MeekSolidSaid : Prop := meekSolidRow.holds Tryz.pinned (OpenSpec.ofChange meekSolidSpec)

/-- ITS FALSE NEIGHBOUR: 'it returns false'. Refute it at one input. -/
def meekSolidWrong : ChangeSpec := { name := "meekSolid", fn := fun _ => fun
  | [d1, d2, d3, d4] => { results := [.lit (.bool false)], args := [d1, d2, d3, d4] }
  | _ => none }
def MeekSolidWrongFalsely : Prop := meekSolidRow.holds Tryz.pinned (OpenSpec.ofChange meekSolidWrong)

/-- 'suffragelaw19.MeekKeep': WHATEVER THE INPUT: true; the input reads as it did. -/
def meekKeepSpec : ChangeSpec := { name := "meekKeep", fn := fun _ => fun
  | [d1, d2, d3, d4, d5, d6] => { results := [.lit (.bool true)], args := [d1, d2, d3, d4, d5, d6] }
  | _ => none }
def meekKeepRow : OpenClaim := { program := "ythcbkhfmdginiaagreat", sum := "5a09b43b8c8f3a6bff8857b1d522e881b1de459ea9c420bd647bd419d7cd10f0", func := "suffrage/suffragelaw19.MeekKeep", spec := "meekKeep", unfollowed := true, recurses := true, named := ["math/bits.divideError", "math/bits.overflowError"], apart := false }
def MeekKeepSaid : Prop := meekKeepRow.holds Tryz.pinned (OpenSpec.ofChange meekKeepSpec)

/-- ITS FALSE NEIGHBOUR: 'it returns false'. Refute it at one input. -/
def meekKeepWrong : ChangeSpec := { name := "meekKeep", fn := fun _ => fun
  | [d1, d2, d3, d4, d5, d6] => { results := [.lit (.bool false)], args := [d1, d2, d3, d4, d5, d6] }
  | _ => none }
def MeekKeepWrongFalsely : Prop := meekKeepRow.holds Tryz.pinned (OpenSpec.ofChange meekKeepWrong)

/-- 'suffragelaw19.MeekSum': WHATEVER THE INPUT: true; the input reads as it did. -/
def meekSumSpec : ChangeSpec := { name := "meekSum", fn := fun _ => fun
  | [d1, d2, d3] => { results := [.lit (.bool true)], args := [d1, d2, d3] }
  | _ => none }
def meekSumRow : OpenClaim := { program := "ythcbkhfmdginiaagreat", sum := "5a09b43b8c8f3a6bff8857b1d522e881b1de459ea9c420bd647bd419d7cd10f0", func := "suffrage/suffragelaw19.MeekSum", spec := "meekSum", unfollowed := true, recurses := true, named := ["math/bits.divideError", "math/bits.overflowError"], apart := false }
def MeekSumSaid : Prop := meekSumRow.holds Tryz.pinned (OpenSpec.ofChange meekSumSpec)

/-- ITS FALSE NEIGHBOUR: 'it returns false'. Refute it at one input. -/
def meekSumWrong : ChangeSpec := { name := "meekSum", fn := fun _ => fun
  | [d1, d2, d3] => { results := [.lit (.bool false)], args := [d1, d2, d3] }
  | _ => none }
def MeekSumWrongFalsely : Prop := meekSumRow.holds Tryz.pinned (OpenSpec.ofChange meekSumWrong)

/-- 'suffragelaw19.MeekRounds': WHATEVER THE INPUT: true; the input reads as it did. -/
def meekRoundsSpec : ChangeSpec := { name := "meekRounds", fn := fun _ => fun
  | [d1, d2, d3] => { results := [.lit (.bool true)], args := [d1, d2, d3] }
  | _ => none }
def meekRoundsRow : OpenClaim := { program := "ythcbkhfmdginiaagreat", sum := "5a09b43b8c8f3a6bff8857b1d522e881b1de459ea9c420bd647bd419d7cd10f0", func := "suffrage/suffragelaw19.MeekRounds", spec := "meekRounds", unfollowed := true, recurses := true, named := ["math/bits.divideError", "math/bits.overflowError"], apart := false }
def MeekRoundsSaid : Prop := meekRoundsRow.holds Tryz.pinned (OpenSpec.ofChange meekRoundsSpec)

/-- ITS FALSE NEIGHBOUR: 'it returns false'. Refute it at one input. -/
def meekRoundsWrong : ChangeSpec := { name := "meekRounds", fn := fun _ => fun
  | [d1, d2, d3] => { results := [.lit (.bool false)], args := [d1, d2, d3] }
  | _ => none }
def MeekRoundsWrongFalsely : Prop := meekRoundsRow.holds Tryz.pinned (OpenSpec.ofChange meekRoundsWrong)

/- THE SECOND FORM. 'bulk': how many values and letters a reading holds, each counted each time it is reached (what is shared counts as often as it is met; a slice's spare places count too). A statement '..UptoSaid' is the law's where the arguments, and the package variables that the reading takes, are together of bulk at most 1048576: NARROWER than '..Said'. Prove '..Said' where nothing that the law and all that it calls make is longer than what came in: it says more and counts as full. Else prove '..UptoSaid'. A law counts once. -/
mutual
def uptoBulk {H : Type} : DataW H → Nat
  | .lit (.string bytes) => bytes.length + 1
  | .lit _ => 1
  | .nil => 1
  | .ptr d => uptoBulk d + 1
  | .slice elems spare => uptoBulkAll elems + uptoBulkAll spare + 1
  | .agg parts => uptoBulkAll parts + 1
  | .iface _ d => uptoBulk d + 1
  | .map entries => uptoBulkEntries entries + 1
  | .held _ => 1
def uptoBulkAll {H : Type} : List (DataW H) → Nat
  | [] => 0
  | d :: r => uptoBulk d + uptoBulkAll r
def uptoBulkEntries {H : Type} : List (Lit × DataW H) → Nat
  | [] => 0
  | x :: r => uptoBulkEntry x + uptoBulkEntries r
def uptoBulkEntry {H : Type} : Lit × DataW H → Nat
  | (.string bytes, d) => bytes.length + uptoBulk d + 1
  | (_, d) => uptoBulk d + 1
 end
def uptoSmall : (H : Type) → List (DataW H) → Bool := fun _ ds => decide (uptoBulkAll ds ≤ 1048576)
def OpenSpec.upto (s : _root_.Go.ChangeSpec) : _root_.Go.OpenSpec := { _root_.Go.OpenSpec.ofChange s with cond := some uptoSmall }

/-- 'suffragelaw18.GregoryTells', WHERE WHAT IT READS IS OF BULK AT MOST 1048576: true; the input reads as it did. -/
def gregoryTellsUptoRow : OpenClaim := { program := "ythcbkhfmdginiaagreat", sum := "5a09b43b8c8f3a6bff8857b1d522e881b1de459ea9c420bd647bd419d7cd10f0", func := "suffrage/suffragelaw18.GregoryTells", spec := "gregoryTells", unfollowed := true, recurses := true, named := ["math/bits.overflowError", "math/bits.divideError"], apart := false, narrowed := true }
def GregoryTellsUptoSaid : Prop := gregoryTellsUptoRow.holds Tryz.pinned (OpenSpec.upto gregoryTellsSpec)

/-- 'suffragelaw19.MeekNames', WHERE WHAT IT READS IS OF BULK AT MOST 1048576: true; the input reads as it did. -/
def meekNamesUptoRow : OpenClaim := { program := "ythcbkhfmdginiaagreat", sum := "5a09b43b8c8f3a6bff8857b1d522e881b1de459ea9c420bd647bd419d7cd10f0", func := "suffrage/suffragelaw19.MeekNames", spec := "meekNames", inPlace := ["slices.overlaps[suffrage/api.Row]"], unfollowed := true, recurses := true, named := ["math/bits.divideError", "math/bits.overflowError"], apart := false, narrowed := true }
def MeekNamesUptoSaid : Prop := meekNamesUptoRow.holds Tryz.pinned (OpenSpec.upto meekNamesSpec)

/-- 'suffragelaw19.MeekTells', WHERE WHAT IT READS IS OF BULK AT MOST 1048576: true; the input reads as it did. -/
def meekTellsUptoRow : OpenClaim := { program := "ythcbkhfmdginiaagreat", sum := "5a09b43b8c8f3a6bff8857b1d522e881b1de459ea9c420bd647bd419d7cd10f0", func := "suffrage/suffragelaw19.MeekTells", spec := "meekTells", unfollowed := true, recurses := true, named := ["math/bits.divideError", "math/bits.overflowError"], apart := false, narrowed := true }
def MeekTellsUptoSaid : Prop := meekTellsUptoRow.holds Tryz.pinned (OpenSpec.upto meekTellsSpec)

/-- 'suffragelaw19.MeekDoes', WHERE WHAT IT READS IS OF BULK AT MOST 1048576: true; the input reads as it did. -/
def meekDoesUptoRow : OpenClaim := { program := "ythcbkhfmdginiaagreat", sum := "5a09b43b8c8f3a6bff8857b1d522e881b1de459ea9c420bd647bd419d7cd10f0", func := "suffrage/suffragelaw19.MeekDoes", spec := "meekDoes", unfollowed := true, recurses := true, named := ["math/bits.divideError", "math/bits.overflowError"], apart := false, narrowed := true }
def MeekDoesUptoSaid : Prop := meekDoesUptoRow.holds Tryz.pinned (OpenSpec.upto meekDoesSpec)

/-- 'suffragelaw19.MeekSeats', WHERE WHAT IT READS IS OF BULK AT MOST 1048576: true; the input reads as it did. -/
def meekSeatsUptoRow : OpenClaim := { program := "ythcbkhfmdginiaagreat", sum := "5a09b43b8c8f3a6bff8857b1d522e881b1de459ea9c420bd647bd419d7cd10f0", func := "suffrage/suffragelaw19.MeekSeats", spec := "meekSeats", unfollowed := true, recurses := true, named := ["math/bits.divideError", "math/bits.overflowError"], apart := false, narrowed := true }
def MeekSeatsUptoSaid : Prop := meekSeatsUptoRow.holds Tryz.pinned (OpenSpec.upto meekSeatsSpec)

/-- 'suffragelaw19.MeekParts', WHERE WHAT IT READS IS OF BULK AT MOST 1048576: true; the input reads as it did. -/
def meekPartsUptoRow : OpenClaim := { program := "ythcbkhfmdginiaagreat", sum := "5a09b43b8c8f3a6bff8857b1d522e881b1de459ea9c420bd647bd419d7cd10f0", func := "suffrage/suffragelaw19.MeekParts", spec := "meekParts", unfollowed := true, recurses := true, named := ["math/bits.divideError", "math/bits.overflowError"], apart := false, narrowed := true }
def MeekPartsUptoSaid : Prop := meekPartsUptoRow.holds Tryz.pinned (OpenSpec.upto meekPartsSpec)

/-- 'suffragelaw19.MeekSolid', WHERE WHAT IT READS IS OF BULK AT MOST 1048576: true; the input reads as it did. -/
def meekSolidUptoRow : OpenClaim := { program := "ythcbkhfmdginiaagreat", sum := "5a09b43b8c8f3a6bff8857b1d522e881b1de459ea9c420bd647bd419d7cd10f0", func := "suffrage/suffragelaw19.MeekSolid", spec := "meekSolid", unfollowed := true, recurses := true, named := ["math/bits.divideError", "math/bits.overflowError"], apart := false, narrowed := true }
def MeekSolidUptoSaid : Prop := meekSolidUptoRow.holds Tryz.pinned (OpenSpec.upto meekSolidSpec)

/-- 'suffragelaw19.MeekKeep', WHERE WHAT IT READS IS OF BULK AT MOST 1048576: true; the input reads as it did. -/
def meekKeepUptoRow : OpenClaim := { program := "ythcbkhfmdginiaagreat", sum := "5a09b43b8c8f3a6bff8857b1d522e881b1de459ea9c420bd647bd419d7cd10f0", func := "suffrage/suffragelaw19.MeekKeep", spec := "meekKeep", unfollowed := true, recurses := true, named := ["math/bits.divideError", "math/bits.overflowError"], apart := false, narrowed := true }
def MeekKeepUptoSaid : Prop := meekKeepUptoRow.holds Tryz.pinned (OpenSpec.upto meekKeepSpec)

/-- 'suffragelaw19.MeekSum', WHERE WHAT IT READS IS OF BULK AT MOST 1048576: true; the input reads as it did. -/
def meekSumUptoRow : OpenClaim := { program := "ythcbkhfmdginiaagreat", sum := "5a09b43b8c8f3a6bff8857b1d522e881b1de459ea9c420bd647bd419d7cd10f0", func := "suffrage/suffragelaw19.MeekSum", spec := "meekSum", unfollowed := true, recurses := true, named := ["math/bits.divideError", "math/bits.overflowError"], apart := false, narrowed := true }
def MeekSumUptoSaid : Prop := meekSumUptoRow.holds Tryz.pinned (OpenSpec.upto meekSumSpec)

/-- 'suffragelaw19.MeekRounds', WHERE WHAT IT READS IS OF BULK AT MOST 1048576: true; the input reads as it did. -/
def meekRoundsUptoRow : OpenClaim := { program := "ythcbkhfmdginiaagreat", sum := "5a09b43b8c8f3a6bff8857b1d522e881b1de459ea9c420bd647bd419d7cd10f0", func := "suffrage/suffragelaw19.MeekRounds", spec := "meekRounds", unfollowed := true, recurses := true, named := ["math/bits.divideError", "math/bits.overflowError"], apart := false, narrowed := true }
def MeekRoundsUptoSaid : Prop := meekRoundsUptoRow.holds Tryz.pinned (OpenSpec.upto meekRoundsSpec)

end Rows
end Go.Proofs.YthcbkhfmdginiaaGreat
