/-
  No cell of these rows narrows 'for every input' (looked for: loops, veiled, ifaces, maps, wideKeys, modest, calm, conditions, laid).
  DERIVED. THE GIVEN ROWS OF THIS SEAT. 8 by the template 'for every input the law returns true; each argument reads behind the call as it read before'; 0 by the template 'total and deterministic' (their statements: YtogngcbflhdadaaGreatTotals.lean).
  GIVEN WITH THE SEED: the statements are not yours to turn. If you find one false, say at which input.
  Laid BY PROGRAM, IN A SANDBOX (cutbox-rows.mjs): the forced cells as the released guide's own fill.sh prints them over the translation 1b0915079d9732ec… (all of the seat's roots in one cut). By AI agents, Wed Nov 11 2026. No macro, syntax, notation, axiom, sorry.
-/
import Derived.Test.YtogngcbflhdadaaGreatChecked
import GoSem.Claim
import GoSem.ClaimJoined
import GoSem.ClaimMapViews
import Derived.JoinedTies
import Derived.KernelRfl
namespace Go.Proofs.YtogngcbflhdadaaGreat
/- THE CELL 'sum', in the pinned program and in every row, IS THE sha256 OF THE DUMP (.gsa) THAT YtogngcbflhdadaaGreatProg.lean LOADS. Nothing in Lean hashes anything: it is a label: what it is worth is what the hold of that sum in a sandbox is worth. -/
noncomputable def Tryz.pinned : Pinned := { name := "ytogngcbflhdadaagreat", sum := "1b0915079d9732ec79e2e4bc31875e85340163451dd94dbf7bd0e3404ece82dc", checked := Tryz.checked }
namespace Rows
def none {H : Type} : Left H := { results := [], args := [] }

/-- 'suffragelaw11.SingleTells': WHATEVER THE INPUT: true; the input reads as it did. -/
def singleTellsSpec : ChangeSpec := { name := "singleTells", fn := fun _ => fun
  | [d1, d2, d3] => { results := [.lit (.bool true)], args := [d1, d2, d3] }
  | _ => none }
def singleTellsRow : OpenClaim := { program := "ytogngcbflhdadaagreat", sum := "1b0915079d9732ec79e2e4bc31875e85340163451dd94dbf7bd0e3404ece82dc", func := "suffrage/suffragelaw11.SingleTells", spec := "singleTells", unfollowed := true, recurses := true, apart := false }
def SingleTellsSaid : Prop := singleTellsRow.holds Tryz.pinned (OpenSpec.ofChange singleTellsSpec)

/-- ITS FALSE NEIGHBOUR: 'it returns false'. Refute it at one input. -/
def singleTellsWrong : ChangeSpec := { name := "singleTells", fn := fun _ => fun
  | [d1, d2, d3] => { results := [.lit (.bool false)], args := [d1, d2, d3] }
  | _ => none }
def SingleTellsWrongFalsely : Prop := singleTellsRow.holds Tryz.pinned (OpenSpec.ofChange singleTellsWrong)

/-- 'suffragelaw11.SingleBorda': WHATEVER THE INPUT: true; the input reads as it did. -/
def singleBordaSpec : ChangeSpec := { name := "singleBorda", fn := fun _ => fun
  | [d1, d2] => { results := [.lit (.bool true)], args := [d1, d2] }
  | _ => none }
def singleBordaRow : OpenClaim := { program := "ytogngcbflhdadaagreat", sum := "1b0915079d9732ec79e2e4bc31875e85340163451dd94dbf7bd0e3404ece82dc", func := "suffrage/suffragelaw11.SingleBorda", spec := "singleBorda", unfollowed := true, recurses := true, apart := false }
def SingleBordaSaid : Prop := singleBordaRow.holds Tryz.pinned (OpenSpec.ofChange singleBordaSpec)

/-- ITS FALSE NEIGHBOUR: 'it returns false'. Refute it at one input. -/
def singleBordaWrong : ChangeSpec := { name := "singleBorda", fn := fun _ => fun
  | [d1, d2] => { results := [.lit (.bool false)], args := [d1, d2] }
  | _ => none }
def SingleBordaWrongFalsely : Prop := singleBordaRow.holds Tryz.pinned (OpenSpec.ofChange singleBordaWrong)

/-- 'suffragelaw11.SingleMore': WHATEVER THE INPUT: true; the input reads as it did. -/
def singleMoreSpec : ChangeSpec := { name := "singleMore", fn := fun _ => fun
  | [d1, d2, d3, d4] => { results := [.lit (.bool true)], args := [d1, d2, d3, d4] }
  | _ => none }
def singleMoreRow : OpenClaim := { program := "ytogngcbflhdadaagreat", sum := "1b0915079d9732ec79e2e4bc31875e85340163451dd94dbf7bd0e3404ece82dc", func := "suffrage/suffragelaw11.SingleMore", spec := "singleMore", inPlace := ["slices.overlaps[suffrage/api.Row]"], unfollowed := true, recurses := true, apart := false }
def SingleMoreSaid : Prop := singleMoreRow.holds Tryz.pinned (OpenSpec.ofChange singleMoreSpec)

/-- ITS FALSE NEIGHBOUR: 'it returns false'. Refute it at one input. -/
def singleMoreWrong : ChangeSpec := { name := "singleMore", fn := fun _ => fun
  | [d1, d2, d3, d4] => { results := [.lit (.bool false)], args := [d1, d2, d3, d4] }
  | _ => none }
def SingleMoreWrongFalsely : Prop := singleMoreRow.holds Tryz.pinned (OpenSpec.ofChange singleMoreWrong)

/-- 'suffragelaw11.SingleNames': WHATEVER THE INPUT: true; the input reads as it did. -/
def singleNamesSpec : ChangeSpec := { name := "singleNames", fn := fun _ => fun
  | [d1, d2, d3, d4, d5] => { results := [.lit (.bool true)], args := [d1, d2, d3, d4, d5] }
  | _ => none }
def singleNamesRow : OpenClaim := { program := "ytogngcbflhdadaagreat", sum := "1b0915079d9732ec79e2e4bc31875e85340163451dd94dbf7bd0e3404ece82dc", func := "suffrage/suffragelaw11.SingleNames", spec := "singleNames", inPlace := ["slices.overlaps[suffrage/api.Row]"], unfollowed := true, recurses := true, apart := false }
def SingleNamesSaid : Prop := singleNamesRow.holds Tryz.pinned (OpenSpec.ofChange singleNamesSpec)

/-- ITS FALSE NEIGHBOUR: 'it returns false'. Refute it at one input. -/
def singleNamesWrong : ChangeSpec := { name := "singleNames", fn := fun _ => fun
  | [d1, d2, d3, d4, d5] => { results := [.lit (.bool false)], args := [d1, d2, d3, d4, d5] }
  | _ => none }
def SingleNamesWrongFalsely : Prop := singleNamesRow.holds Tryz.pinned (OpenSpec.ofChange singleNamesWrong)

/-- 'suffragelaw11.SingleSeats': WHATEVER THE INPUT: true; the input reads as it did. -/
def singleSeatsSpec : ChangeSpec := { name := "singleSeats", fn := fun _ => fun
  | [d1, d2, d3, d4] => { results := [.lit (.bool true)], args := [d1, d2, d3, d4] }
  | _ => none }
def singleSeatsRow : OpenClaim := { program := "ytogngcbflhdadaagreat", sum := "1b0915079d9732ec79e2e4bc31875e85340163451dd94dbf7bd0e3404ece82dc", func := "suffrage/suffragelaw11.SingleSeats", spec := "singleSeats", unfollowed := true, recurses := true, named := ["math/bits.overflowError"], apart := false }
def SingleSeatsSaid : Prop := singleSeatsRow.holds Tryz.pinned (OpenSpec.ofChange singleSeatsSpec)

/-- ITS FALSE NEIGHBOUR: 'it returns false'. Refute it at one input. -/
def singleSeatsWrong : ChangeSpec := { name := "singleSeats", fn := fun _ => fun
  | [d1, d2, d3, d4] => { results := [.lit (.bool false)], args := [d1, d2, d3, d4] }
  | _ => none }
def SingleSeatsWrongFalsely : Prop := singleSeatsRow.holds Tryz.pinned (OpenSpec.ofChange singleSeatsWrong)

/-- 'suffragelaw11.SingleTies': WHATEVER THE INPUT: true; the input reads as it did. -/
def singleTiesSpec : ChangeSpec := { name := "singleTies", fn := fun _ => fun
  | [d1, d2, d3, d4] => { results := [.lit (.bool true)], args := [d1, d2, d3, d4] }
  | _ => none }
def singleTiesRow : OpenClaim := { program := "ytogngcbflhdadaagreat", sum := "1b0915079d9732ec79e2e4bc31875e85340163451dd94dbf7bd0e3404ece82dc", func := "suffrage/suffragelaw11.SingleTies", spec := "singleTies", unfollowed := true, recurses := true, named := ["math/bits.overflowError"], apart := false }
def SingleTiesSaid : Prop := singleTiesRow.holds Tryz.pinned (OpenSpec.ofChange singleTiesSpec)

/-- ITS FALSE NEIGHBOUR: 'it returns false'. Refute it at one input. -/
def singleTiesWrong : ChangeSpec := { name := "singleTies", fn := fun _ => fun
  | [d1, d2, d3, d4] => { results := [.lit (.bool false)], args := [d1, d2, d3, d4] }
  | _ => none }
def SingleTiesWrongFalsely : Prop := singleTiesRow.holds Tryz.pinned (OpenSpec.ofChange singleTiesWrong)

/-- 'suffragelaw11.SingleMajority': WHATEVER THE INPUT: true; the input reads as it did. -/
def singleMajoritySpec : ChangeSpec := { name := "singleMajority", fn := fun _ => fun
  | [d1, d2, d3] => { results := [.lit (.bool true)], args := [d1, d2, d3] }
  | _ => none }
def singleMajorityRow : OpenClaim := { program := "ytogngcbflhdadaagreat", sum := "1b0915079d9732ec79e2e4bc31875e85340163451dd94dbf7bd0e3404ece82dc", func := "suffrage/suffragelaw11.SingleMajority", spec := "singleMajority", unfollowed := true, recurses := true, named := ["math/bits.overflowError"], apart := false }
def SingleMajoritySaid : Prop := singleMajorityRow.holds Tryz.pinned (OpenSpec.ofChange singleMajoritySpec)

/-- ITS FALSE NEIGHBOUR: 'it returns false'. Refute it at one input. -/
def singleMajorityWrong : ChangeSpec := { name := "singleMajority", fn := fun _ => fun
  | [d1, d2, d3] => { results := [.lit (.bool false)], args := [d1, d2, d3] }
  | _ => none }
def SingleMajorityWrongFalsely : Prop := singleMajorityRow.holds Tryz.pinned (OpenSpec.ofChange singleMajorityWrong)

/-- 'suffragelaw11.SingleSum': WHATEVER THE INPUT: true; the input reads as it did. -/
def singleSumSpec : ChangeSpec := { name := "singleSum", fn := fun _ => fun
  | [d1, d2, d3, d4] => { results := [.lit (.bool true)], args := [d1, d2, d3, d4] }
  | _ => none }
def singleSumRow : OpenClaim := { program := "ytogngcbflhdadaagreat", sum := "1b0915079d9732ec79e2e4bc31875e85340163451dd94dbf7bd0e3404ece82dc", func := "suffrage/suffragelaw11.SingleSum", spec := "singleSum", inPlace := ["slices.overlaps[suffrage/api.Row]"], unfollowed := true, recurses := true, named := ["math/bits.overflowError"], apart := false }
def SingleSumSaid : Prop := singleSumRow.holds Tryz.pinned (OpenSpec.ofChange singleSumSpec)

/-- ITS FALSE NEIGHBOUR: 'it returns false'. Refute it at one input. -/
def singleSumWrong : ChangeSpec := { name := "singleSum", fn := fun _ => fun
  | [d1, d2, d3, d4] => { results := [.lit (.bool false)], args := [d1, d2, d3, d4] }
  | _ => none }
def SingleSumWrongFalsely : Prop := singleSumRow.holds Tryz.pinned (OpenSpec.ofChange singleSumWrong)

/- THE SECOND FORM. 'bulk': how many values and letters a reading holds, each counted each time it is reached (what is shared counts as often as it is met; a slice's spare places count too). A statement '..UptoSaid' is the law's where the arguments, and the package variables that the reading takes, are together of bulk at most 1048576: NARROWER than '..Said'. Prove '..Said' where nothing that the law and all that it calls make is longer than what came in: it says more and counts as full. Else prove '..UptoSaid'. A law counts once. -/
mutual
def uptoBulk {H : Type} : DataW H → Nat
  | .lit (.string bytes) => bytes.length + 1
  | .lit _ => 1
  | .nil => 1
  | .ptr d => uptoBulk d + 1
  | .slice elems spare => uptoBulkAll elems + uptoBulkAll spare + 1
  | .agg parts => uptoBulkAll parts + 1
  | .iface _ d => uptoBulk d + 1
  | .map entries => uptoBulkEntries entries + 1
  | .held _ => 1
def uptoBulkAll {H : Type} : List (DataW H) → Nat
  | [] => 0
  | d :: r => uptoBulk d + uptoBulkAll r
def uptoBulkEntries {H : Type} : List (Lit × DataW H) → Nat
  | [] => 0
  | x :: r => uptoBulkEntry x + uptoBulkEntries r
def uptoBulkEntry {H : Type} : Lit × DataW H → Nat
  | (.string bytes, d) => bytes.length + uptoBulk d + 1
  | (_, d) => uptoBulk d + 1
 end
def uptoSmall : (H : Type) → List (DataW H) → Bool := fun _ ds => decide (uptoBulkAll ds ≤ 1048576)
def OpenSpec.upto (s : _root_.Go.ChangeSpec) : _root_.Go.OpenSpec := { _root_.Go.OpenSpec.ofChange s with cond := some uptoSmall }

/-- 'suffragelaw11.SingleTells', WHERE WHAT IT READS IS OF BULK AT MOST 1048576: true; the input reads as it did. -/
def singleTellsUptoRow : OpenClaim := { program := "ytogngcbflhdadaagreat", sum := "1b0915079d9732ec79e2e4bc31875e85340163451dd94dbf7bd0e3404ece82dc", func := "suffrage/suffragelaw11.SingleTells", spec := "singleTells", unfollowed := true, recurses := true, apart := false, narrowed := true }
def SingleTellsUptoSaid : Prop := singleTellsUptoRow.holds Tryz.pinned (OpenSpec.upto singleTellsSpec)

/-- 'suffragelaw11.SingleBorda', WHERE WHAT IT READS IS OF BULK AT MOST 1048576: true; the input reads as it did. -/
def singleBordaUptoRow : OpenClaim := { program := "ytogngcbflhdadaagreat", sum := "1b0915079d9732ec79e2e4bc31875e85340163451dd94dbf7bd0e3404ece82dc", func := "suffrage/suffragelaw11.SingleBorda", spec := "singleBorda", unfollowed := true, recurses := true, apart := false, narrowed := true }
def SingleBordaUptoSaid : Prop := singleBordaUptoRow.holds Tryz.pinned (OpenSpec.upto singleBordaSpec)

/-- 'suffragelaw11.SingleMore', WHERE WHAT IT READS IS OF BULK AT MOST 1048576: true; the input reads as it did. -/
def singleMoreUptoRow : OpenClaim := { program := "ytogngcbflhdadaagreat", sum := "1b0915079d9732ec79e2e4bc31875e85340163451dd94dbf7bd0e3404ece82dc", func := "suffrage/suffragelaw11.SingleMore", spec := "singleMore", inPlace := ["slices.overlaps[suffrage/api.Row]"], unfollowed := true, recurses := true, apart := false, narrowed := true }
def SingleMoreUptoSaid : Prop := singleMoreUptoRow.holds Tryz.pinned (OpenSpec.upto singleMoreSpec)

/-- 'suffragelaw11.SingleNames', WHERE WHAT IT READS IS OF BULK AT MOST 1048576: true; the input reads as it did. -/
def singleNamesUptoRow : OpenClaim := { program := "ytogngcbflhdadaagreat", sum := "1b0915079d9732ec79e2e4bc31875e85340163451dd94dbf7bd0e3404ece82dc", func := "suffrage/suffragelaw11.SingleNames", spec := "singleNames", inPlace := ["slices.overlaps[suffrage/api.Row]"], unfollowed := true, recurses := true, apart := false, narrowed := true }
def SingleNamesUptoSaid : Prop := singleNamesUptoRow.holds Tryz.pinned (OpenSpec.upto singleNamesSpec)

/-- 'suffragelaw11.SingleSeats', WHERE WHAT IT READS IS OF BULK AT MOST 1048576: true; the input reads as it did. -/
def singleSeatsUptoRow : OpenClaim := { program := "ytogngcbflhdadaagreat", sum := "1b0915079d9732ec79e2e4bc31875e85340163451dd94dbf7bd0e3404ece82dc", func := "suffrage/suffragelaw11.SingleSeats", spec := "singleSeats", unfollowed := true, recurses := true, named := ["math/bits.overflowError"], apart := false, narrowed := true }
def SingleSeatsUptoSaid : Prop := singleSeatsUptoRow.holds Tryz.pinned (OpenSpec.upto singleSeatsSpec)

/-- 'suffragelaw11.SingleTies', WHERE WHAT IT READS IS OF BULK AT MOST 1048576: true; the input reads as it did. -/
def singleTiesUptoRow : OpenClaim := { program := "ytogngcbflhdadaagreat", sum := "1b0915079d9732ec79e2e4bc31875e85340163451dd94dbf7bd0e3404ece82dc", func := "suffrage/suffragelaw11.SingleTies", spec := "singleTies", unfollowed := true, recurses := true, named := ["math/bits.overflowError"], apart := false, narrowed := true }
def SingleTiesUptoSaid : Prop := singleTiesUptoRow.holds Tryz.pinned (OpenSpec.upto singleTiesSpec)

/-- 'suffragelaw11.SingleMajority', WHERE WHAT IT READS IS OF BULK AT MOST 1048576: true; the input reads as it did. -/
def singleMajorityUptoRow : OpenClaim := { program := "ytogngcbflhdadaagreat", sum := "1b0915079d9732ec79e2e4bc31875e85340163451dd94dbf7bd0e3404ece82dc", func := "suffrage/suffragelaw11.SingleMajority", spec := "singleMajority", unfollowed := true, recurses := true, named := ["math/bits.overflowError"], apart := false, narrowed := true }
def SingleMajorityUptoSaid : Prop := singleMajorityUptoRow.holds Tryz.pinned (OpenSpec.upto singleMajoritySpec)

/-- 'suffragelaw11.SingleSum', WHERE WHAT IT READS IS OF BULK AT MOST 1048576: true; the input reads as it did. -/
def singleSumUptoRow : OpenClaim := { program := "ytogngcbflhdadaagreat", sum := "1b0915079d9732ec79e2e4bc31875e85340163451dd94dbf7bd0e3404ece82dc", func := "suffrage/suffragelaw11.SingleSum", spec := "singleSum", inPlace := ["slices.overlaps[suffrage/api.Row]"], unfollowed := true, recurses := true, named := ["math/bits.overflowError"], apart := false, narrowed := true }
def SingleSumUptoSaid : Prop := singleSumUptoRow.holds Tryz.pinned (OpenSpec.upto singleSumSpec)

end Rows
end Go.Proofs.YtogngcbflhdadaaGreat
