/-
  No cell of these rows narrows 'for every input' (looked for: loops, veiled, ifaces, maps, wideKeys, modest, calm, conditions, laid).
  DERIVED. THE GIVEN ROWS OF THIS SEAT. 15 by the template 'for every input the law returns true; each argument reads behind the call as it read before'; 0 by the template 'total and deterministic' (their statements: YtkjgddcjhikdgaaTotals.lean).
  GIVEN WITH THE SEED: the statements are not yours to turn. If you find one false, say at which input.
  Laid BY PROGRAM, IN A SANDBOX (cutbox-rows.mjs): the forced cells as the released guide's own fill.sh prints them over the translation 4918c33cb2a12397… (all of the seat's roots in one cut). By AI agents, Wed Nov 11 2026. No macro, syntax, notation, axiom, sorry.
-/
import Derived.Test.YtkjgddcjhikdgaaChecked
import GoSem.Claim
import GoSem.ClaimJoined
import GoSem.ClaimMapViews
import Derived.JoinedTies
import Derived.KernelRfl
namespace Go.Proofs.Ytkjgddcjhikdgaa
/- THE CELL 'sum', in the pinned program and in every row, IS THE sha256 OF THE DUMP (.gsa) THAT YtkjgddcjhikdgaaProg.lean LOADS. Nothing in Lean hashes anything: it is a label: what it is worth is what the hold of that sum in a sandbox is worth. -/
noncomputable def Try.pinned : Pinned := { name := "ytkjgddcjhikdgaa", sum := "4918c33cb2a123977264c3dd137e9f806b44f3b0456f7c8912a938dd2677c324", checked := Try.checked }
namespace Rows
def none {H : Type} : Left H := { results := [], args := [] }

/-- 'suffragelaw26.RecordPuts': WHATEVER THE INPUT: true; the input reads as it did. -/
def recordPutsSpec : ChangeSpec := { name := "recordPuts", fn := fun _ => fun
  | [d1, d2, d3, d4, d5] => { results := [.lit (.bool true)], args := [d1, d2, d3, d4, d5] }
  | _ => none }
def recordPutsRow : OpenClaim := { program := "ytkjgddcjhikdgaa", sum := "4918c33cb2a123977264c3dd137e9f806b44f3b0456f7c8912a938dd2677c324", func := "suffrage/suffragelaw26.RecordPuts", spec := "recordPuts", unfollowed := true, recurses := true, apart := false }
def RecordPutsSaid : Prop := recordPutsRow.holds Try.pinned (OpenSpec.ofChange recordPutsSpec)

/-- ITS FALSE NEIGHBOUR: 'it returns false'. Refute it at one input. -/
def recordPutsWrong : ChangeSpec := { name := "recordPuts", fn := fun _ => fun
  | [d1, d2, d3, d4, d5] => { results := [.lit (.bool false)], args := [d1, d2, d3, d4, d5] }
  | _ => none }
def RecordPutsWrongFalsely : Prop := recordPutsRow.holds Try.pinned (OpenSpec.ofChange recordPutsWrong)

/-- 'suffragelaw27.CanvassTells': WHATEVER THE INPUT: true; the input reads as it did. -/
def canvassTellsSpec : ChangeSpec := { name := "canvassTells", fn := fun _ => fun
  | [d1, d2, d3, d4, d5] => { results := [.lit (.bool true)], args := [d1, d2, d3, d4, d5] }
  | _ => none }
def canvassTellsRow : OpenClaim := { program := "ytkjgddcjhikdgaa", sum := "4918c33cb2a123977264c3dd137e9f806b44f3b0456f7c8912a938dd2677c324", func := "suffrage/suffragelaw27.CanvassTells", spec := "canvassTells", unfollowed := true, recurses := true, apart := false }
def CanvassTellsSaid : Prop := canvassTellsRow.holds Try.pinned (OpenSpec.ofChange canvassTellsSpec)

/-- ITS FALSE NEIGHBOUR: 'it returns false'. Refute it at one input. -/
def canvassTellsWrong : ChangeSpec := { name := "canvassTells", fn := fun _ => fun
  | [d1, d2, d3, d4, d5] => { results := [.lit (.bool false)], args := [d1, d2, d3, d4, d5] }
  | _ => none }
def CanvassTellsWrongFalsely : Prop := canvassTellsRow.holds Try.pinned (OpenSpec.ofChange canvassTellsWrong)

/-- 'suffragelaw26.RecordTells': WHATEVER THE INPUT: true; the input reads as it did. -/
def recordTellsSpec : ChangeSpec := { name := "recordTells", fn := fun _ => fun
  | [d1, d2, d3, d4, d5, d6] => { results := [.lit (.bool true)], args := [d1, d2, d3, d4, d5, d6] }
  | _ => none }
def recordTellsRow : OpenClaim := { program := "ytkjgddcjhikdgaa", sum := "4918c33cb2a123977264c3dd137e9f806b44f3b0456f7c8912a938dd2677c324", func := "suffrage/suffragelaw26.RecordTells", spec := "recordTells", unfollowed := true, recurses := true, apart := false }
def RecordTellsSaid : Prop := recordTellsRow.holds Try.pinned (OpenSpec.ofChange recordTellsSpec)

/-- ITS FALSE NEIGHBOUR: 'it returns false'. Refute it at one input. -/
def recordTellsWrong : ChangeSpec := { name := "recordTells", fn := fun _ => fun
  | [d1, d2, d3, d4, d5, d6] => { results := [.lit (.bool false)], args := [d1, d2, d3, d4, d5, d6] }
  | _ => none }
def RecordTellsWrongFalsely : Prop := recordTellsRow.holds Try.pinned (OpenSpec.ofChange recordTellsWrong)

/-- 'suffragelaw26.RecordReads': WHATEVER THE INPUT: true; the input reads as it did. -/
def recordReadsSpec : ChangeSpec := { name := "recordReads", fn := fun _ => fun
  | [d] => { results := [.lit (.bool true)], args := [d] }
  | _ => none }
def recordReadsRow : OpenClaim := { program := "ytkjgddcjhikdgaa", sum := "4918c33cb2a123977264c3dd137e9f806b44f3b0456f7c8912a938dd2677c324", func := "suffrage/suffragelaw26.RecordReads", spec := "recordReads", unfollowed := true, recurses := true, apart := false }
def RecordReadsSaid : Prop := recordReadsRow.holds Try.pinned (OpenSpec.ofChange recordReadsSpec)

/-- ITS FALSE NEIGHBOUR: 'it returns false'. Refute it at one input. -/
def recordReadsWrong : ChangeSpec := { name := "recordReads", fn := fun _ => fun
  | [d] => { results := [.lit (.bool false)], args := [d] }
  | _ => none }
def RecordReadsWrongFalsely : Prop := recordReadsRow.holds Try.pinned (OpenSpec.ofChange recordReadsWrong)

/-- 'suffragelaw27.CanvassCompares': WHATEVER THE INPUT: true; the input reads as it did. -/
def canvassComparesSpec : ChangeSpec := { name := "canvassCompares", fn := fun _ => fun
  | [d1, d2, d3, d4, d5] => { results := [.lit (.bool true)], args := [d1, d2, d3, d4, d5] }
  | _ => none }
def canvassComparesRow : OpenClaim := { program := "ytkjgddcjhikdgaa", sum := "4918c33cb2a123977264c3dd137e9f806b44f3b0456f7c8912a938dd2677c324", func := "suffrage/suffragelaw27.CanvassCompares", spec := "canvassCompares", unfollowed := true, recurses := true, apart := false }
def CanvassComparesSaid : Prop := canvassComparesRow.holds Try.pinned (OpenSpec.ofChange canvassComparesSpec)

/-- ITS FALSE NEIGHBOUR: 'it returns false'. Refute it at one input. -/
def canvassComparesWrong : ChangeSpec := { name := "canvassCompares", fn := fun _ => fun
  | [d1, d2, d3, d4, d5] => { results := [.lit (.bool false)], args := [d1, d2, d3, d4, d5] }
  | _ => none }
def CanvassComparesWrongFalsely : Prop := canvassComparesRow.holds Try.pinned (OpenSpec.ofChange canvassComparesWrong)

/-- 'suffragelaw27.CanvassDue': WHATEVER THE INPUT: true; the input reads as it did. -/
def canvassDueSpec : ChangeSpec := { name := "canvassDue", fn := fun _ => fun
  | [d1, d2, d3] => { results := [.lit (.bool true)], args := [d1, d2, d3] }
  | _ => none }
def canvassDueRow : OpenClaim := { program := "ytkjgddcjhikdgaa", sum := "4918c33cb2a123977264c3dd137e9f806b44f3b0456f7c8912a938dd2677c324", func := "suffrage/suffragelaw27.CanvassDue", spec := "canvassDue", named := ["math/bits.overflowError"], apart := false }
def CanvassDueSaid : Prop := canvassDueRow.holds Try.pinned (OpenSpec.ofChange canvassDueSpec)

/-- ITS FALSE NEIGHBOUR: 'it returns false'. Refute it at one input. -/
def canvassDueWrong : ChangeSpec := { name := "canvassDue", fn := fun _ => fun
  | [d1, d2, d3] => { results := [.lit (.bool false)], args := [d1, d2, d3] }
  | _ => none }
def CanvassDueWrongFalsely : Prop := canvassDueRow.holds Try.pinned (OpenSpec.ofChange canvassDueWrong)

/-- 'suffragelaw27.CanvassLimits': WHATEVER THE INPUT: true; the input reads as it did. -/
def canvassLimitsSpec : ChangeSpec := { name := "canvassLimits", fn := fun _ => fun
  | [d1, d2, d3, d4] => { results := [.lit (.bool true)], args := [d1, d2, d3, d4] }
  | _ => none }
def canvassLimitsRow : OpenClaim := { program := "ytkjgddcjhikdgaa", sum := "4918c33cb2a123977264c3dd137e9f806b44f3b0456f7c8912a938dd2677c324", func := "suffrage/suffragelaw27.CanvassLimits", spec := "canvassLimits", unfollowed := true, recurses := true, named := ["math/bits.overflowError"], apart := false }
def CanvassLimitsSaid : Prop := canvassLimitsRow.holds Try.pinned (OpenSpec.ofChange canvassLimitsSpec)

/-- ITS FALSE NEIGHBOUR: 'it returns false'. Refute it at one input. -/
def canvassLimitsWrong : ChangeSpec := { name := "canvassLimits", fn := fun _ => fun
  | [d1, d2, d3, d4] => { results := [.lit (.bool false)], args := [d1, d2, d3, d4] }
  | _ => none }
def CanvassLimitsWrongFalsely : Prop := canvassLimitsRow.holds Try.pinned (OpenSpec.ofChange canvassLimitsWrong)

/-- 'suffragelaw27.CanvassFits': WHATEVER THE INPUT: true; the input reads as it did. -/
def canvassFitsSpec : ChangeSpec := { name := "canvassFits", fn := fun _ => fun
  | [d1, d2, d3, d4, d5] => { results := [.lit (.bool true)], args := [d1, d2, d3, d4, d5] }
  | _ => none }
def canvassFitsRow : OpenClaim := { program := "ytkjgddcjhikdgaa", sum := "4918c33cb2a123977264c3dd137e9f806b44f3b0456f7c8912a938dd2677c324", func := "suffrage/suffragelaw27.CanvassFits", spec := "canvassFits", unfollowed := true, recurses := true, named := ["math/bits.overflowError"], apart := false }
def CanvassFitsSaid : Prop := canvassFitsRow.holds Try.pinned (OpenSpec.ofChange canvassFitsSpec)

/-- ITS FALSE NEIGHBOUR: 'it returns false'. Refute it at one input. -/
def canvassFitsWrong : ChangeSpec := { name := "canvassFits", fn := fun _ => fun
  | [d1, d2, d3, d4, d5] => { results := [.lit (.bool false)], args := [d1, d2, d3, d4, d5] }
  | _ => none }
def CanvassFitsWrongFalsely : Prop := canvassFitsRow.holds Try.pinned (OpenSpec.ofChange canvassFitsWrong)

/-- 'suffragelaw26.RecordOrder': WHATEVER THE INPUT: true; the input reads as it did. -/
def recordOrderSpec : ChangeSpec := { name := "recordOrder", fn := fun _ => fun
  | [d1, d2, d3] => { results := [.lit (.bool true)], args := [d1, d2, d3] }
  | _ => none }
def recordOrderRow : OpenClaim := { program := "ytkjgddcjhikdgaa", sum := "4918c33cb2a123977264c3dd137e9f806b44f3b0456f7c8912a938dd2677c324", func := "suffrage/suffragelaw26.RecordOrder", spec := "recordOrder", inPlace := ["slices.overlaps[suffrage/api.Row]"], unfollowed := true, recurses := true, apart := false }
def RecordOrderSaid : Prop := recordOrderRow.holds Try.pinned (OpenSpec.ofChange recordOrderSpec)

/-- ITS FALSE NEIGHBOUR: 'it returns false'. Refute it at one input. -/
def recordOrderWrong : ChangeSpec := { name := "recordOrder", fn := fun _ => fun
  | [d1, d2, d3] => { results := [.lit (.bool false)], args := [d1, d2, d3] }
  | _ => none }
def RecordOrderWrongFalsely : Prop := recordOrderRow.holds Try.pinned (OpenSpec.ofChange recordOrderWrong)

/-- 'suffragelaw27.CanvassSame': WHATEVER THE INPUT: true; the input reads as it did. -/
def canvassSameSpec : ChangeSpec := { name := "canvassSame", fn := fun _ => fun
  | [d1, d2, d3, d4] => { results := [.lit (.bool true)], args := [d1, d2, d3, d4] }
  | _ => none }
def canvassSameRow : OpenClaim := { program := "ytkjgddcjhikdgaa", sum := "4918c33cb2a123977264c3dd137e9f806b44f3b0456f7c8912a938dd2677c324", func := "suffrage/suffragelaw27.CanvassSame", spec := "canvassSame", unfollowed := true, recurses := true, named := ["math/bits.overflowError"], apart := false }
def CanvassSameSaid : Prop := canvassSameRow.holds Try.pinned (OpenSpec.ofChange canvassSameSpec)

/-- ITS FALSE NEIGHBOUR: 'it returns false'. Refute it at one input. -/
def canvassSameWrong : ChangeSpec := { name := "canvassSame", fn := fun _ => fun
  | [d1, d2, d3, d4] => { results := [.lit (.bool false)], args := [d1, d2, d3, d4] }
  | _ => none }
def CanvassSameWrongFalsely : Prop := canvassSameRow.holds Try.pinned (OpenSpec.ofChange canvassSameWrong)

/-- 'suffragelaw26.RecordSums': WHATEVER THE INPUT: true; the input reads as it did. -/
def recordSumsSpec : ChangeSpec := { name := "recordSums", fn := fun _ => fun
  | [d1, d2, d3] => { results := [.lit (.bool true)], args := [d1, d2, d3] }
  | _ => none }
def recordSumsRow : OpenClaim := { program := "ytkjgddcjhikdgaa", sum := "4918c33cb2a123977264c3dd137e9f806b44f3b0456f7c8912a938dd2677c324", func := "suffrage/suffragelaw26.RecordSums", spec := "recordSums", inPlace := ["slices.overlaps[suffrage/api.Row]"], unfollowed := true, recurses := true, apart := false }
def RecordSumsSaid : Prop := recordSumsRow.holds Try.pinned (OpenSpec.ofChange recordSumsSpec)

/-- ITS FALSE NEIGHBOUR: 'it returns false'. Refute it at one input. -/
def recordSumsWrong : ChangeSpec := { name := "recordSums", fn := fun _ => fun
  | [d1, d2, d3] => { results := [.lit (.bool false)], args := [d1, d2, d3] }
  | _ => none }
def RecordSumsWrongFalsely : Prop := recordSumsRow.holds Try.pinned (OpenSpec.ofChange recordSumsWrong)

/-- 'suffragelaw26.RecordGrows': WHATEVER THE INPUT: true; the input reads as it did. -/
def recordGrowsSpec : ChangeSpec := { name := "recordGrows", fn := fun _ => fun
  | [d1, d2, d3, d4, d5] => { results := [.lit (.bool true)], args := [d1, d2, d3, d4, d5] }
  | _ => none }
def recordGrowsRow : OpenClaim := { program := "ytkjgddcjhikdgaa", sum := "4918c33cb2a123977264c3dd137e9f806b44f3b0456f7c8912a938dd2677c324", func := "suffrage/suffragelaw26.RecordGrows", spec := "recordGrows", inPlace := ["slices.overlaps[suffrage/api.Row]"], unfollowed := true, recurses := true, apart := false }
def RecordGrowsSaid : Prop := recordGrowsRow.holds Try.pinned (OpenSpec.ofChange recordGrowsSpec)

/-- ITS FALSE NEIGHBOUR: 'it returns false'. Refute it at one input. -/
def recordGrowsWrong : ChangeSpec := { name := "recordGrows", fn := fun _ => fun
  | [d1, d2, d3, d4, d5] => { results := [.lit (.bool false)], args := [d1, d2, d3, d4, d5] }
  | _ => none }
def RecordGrowsWrongFalsely : Prop := recordGrowsRow.holds Try.pinned (OpenSpec.ofChange recordGrowsWrong)

/-- 'suffragelaw27.CanvassNames': WHATEVER THE INPUT: true; the input reads as it did. -/
def canvassNamesSpec : ChangeSpec := { name := "canvassNames", fn := fun _ => fun
  | [] => { results := [.lit (.bool true)], args := [] }
  | _ => none }
def canvassNamesRow : OpenClaim := { program := "ytkjgddcjhikdgaa", sum := "4918c33cb2a123977264c3dd137e9f806b44f3b0456f7c8912a938dd2677c324", func := "suffrage/suffragelaw27.CanvassNames", spec := "canvassNames", unfollowed := true, recurses := true, named := ["math/bits.overflowError"], apart := false }
def CanvassNamesSaid : Prop := canvassNamesRow.holds Try.pinned (OpenSpec.ofChange canvassNamesSpec)

/-- ITS FALSE NEIGHBOUR: 'it returns false'. Refute it at one input. -/
def canvassNamesWrong : ChangeSpec := { name := "canvassNames", fn := fun _ => fun
  | [] => { results := [.lit (.bool false)], args := [] }
  | _ => none }
def CanvassNamesWrongFalsely : Prop := canvassNamesRow.holds Try.pinned (OpenSpec.ofChange canvassNamesWrong)

/-- 'suffragelaw26.RecordNames': WHATEVER THE INPUT: true; the input reads as it did. -/
def recordNamesSpec : ChangeSpec := { name := "recordNames", fn := fun _ => fun
  | [] => { results := [.lit (.bool true)], args := [] }
  | _ => none }
def recordNamesRow : OpenClaim := { program := "ytkjgddcjhikdgaa", sum := "4918c33cb2a123977264c3dd137e9f806b44f3b0456f7c8912a938dd2677c324", func := "suffrage/suffragelaw26.RecordNames", spec := "recordNames", inPlace := ["slices.overlaps[suffrage/api.Row]"], unfollowed := true, recurses := true, apart := false }
def RecordNamesSaid : Prop := recordNamesRow.holds Try.pinned (OpenSpec.ofChange recordNamesSpec)

/-- ITS FALSE NEIGHBOUR: 'it returns false'. Refute it at one input. -/
def recordNamesWrong : ChangeSpec := { name := "recordNames", fn := fun _ => fun
  | [] => { results := [.lit (.bool false)], args := [] }
  | _ => none }
def RecordNamesWrongFalsely : Prop := recordNamesRow.holds Try.pinned (OpenSpec.ofChange recordNamesWrong)

/-- 'suffragelaw26.RecordBack': WHATEVER THE INPUT: true; the input reads as it did. -/
def recordBackSpec : ChangeSpec := { name := "recordBack", fn := fun _ => fun
  | [d1, d2, d3, d4] => { results := [.lit (.bool true)], args := [d1, d2, d3, d4] }
  | _ => none }
def recordBackRow : OpenClaim := { program := "ytkjgddcjhikdgaa", sum := "4918c33cb2a123977264c3dd137e9f806b44f3b0456f7c8912a938dd2677c324", func := "suffrage/suffragelaw26.RecordBack", spec := "recordBack", inPlace := ["slices.overlaps[suffrage/api.Row]"], unfollowed := true, recurses := true, apart := false }
def RecordBackSaid : Prop := recordBackRow.holds Try.pinned (OpenSpec.ofChange recordBackSpec)

/-- ITS FALSE NEIGHBOUR: 'it returns false'. Refute it at one input. -/
def recordBackWrong : ChangeSpec := { name := "recordBack", fn := fun _ => fun
  | [d1, d2, d3, d4] => { results := [.lit (.bool false)], args := [d1, d2, d3, d4] }
  | _ => none }
def RecordBackWrongFalsely : Prop := recordBackRow.holds Try.pinned (OpenSpec.ofChange recordBackWrong)

/- THE SECOND FORM. 'bulk': how many values and letters a reading holds, each counted each time it is reached (what is shared counts as often as it is met; a slice's spare places count too). A statement '..UptoSaid' is the law's where the arguments, and the package variables that the reading takes, are together of bulk at most 1048576: NARROWER than '..Said'. Prove '..Said' where nothing that the law and all that it calls make is longer than what came in: it says more and counts as full. Else prove '..UptoSaid'. A law counts once. -/
mutual
def uptoBulk {H : Type} : DataW H → Nat
  | .lit (.string bytes) => bytes.length + 1
  | .lit _ => 1
  | .nil => 1
  | .ptr d => uptoBulk d + 1
  | .slice elems spare => uptoBulkAll elems + uptoBulkAll spare + 1
  | .agg parts => uptoBulkAll parts + 1
  | .iface _ d => uptoBulk d + 1
  | .map entries => uptoBulkEntries entries + 1
  | .held _ => 1
def uptoBulkAll {H : Type} : List (DataW H) → Nat
  | [] => 0
  | d :: r => uptoBulk d + uptoBulkAll r
def uptoBulkEntries {H : Type} : List (Lit × DataW H) → Nat
  | [] => 0
  | x :: r => uptoBulkEntry x + uptoBulkEntries r
def uptoBulkEntry {H : Type} : Lit × DataW H → Nat
  | (.string bytes, d) => bytes.length + uptoBulk d + 1
  | (_, d) => uptoBulk d + 1
 end
def uptoSmall : (H : Type) → List (DataW H) → Bool := fun _ ds => decide (uptoBulkAll ds ≤ 1048576)
def OpenSpec.upto (s : _root_.Go.ChangeSpec) : _root_.Go.OpenSpec := { _root_.Go.OpenSpec.ofChange s with cond := some uptoSmall }

/-- 'suffragelaw26.RecordPuts', WHERE WHAT IT READS IS OF BULK AT MOST 1048576: true; the input reads as it did. -/
def recordPutsUptoRow : OpenClaim := { program := "ytkjgddcjhikdgaa", sum := "4918c33cb2a123977264c3dd137e9f806b44f3b0456f7c8912a938dd2677c324", func := "suffrage/suffragelaw26.RecordPuts", spec := "recordPuts", unfollowed := true, recurses := true, apart := false, narrowed := true }
def RecordPutsUptoSaid : Prop := recordPutsUptoRow.holds Try.pinned (OpenSpec.upto recordPutsSpec)

/-- 'suffragelaw27.CanvassTells', WHERE WHAT IT READS IS OF BULK AT MOST 1048576: true; the input reads as it did. -/
def canvassTellsUptoRow : OpenClaim := { program := "ytkjgddcjhikdgaa", sum := "4918c33cb2a123977264c3dd137e9f806b44f3b0456f7c8912a938dd2677c324", func := "suffrage/suffragelaw27.CanvassTells", spec := "canvassTells", unfollowed := true, recurses := true, apart := false, narrowed := true }
def CanvassTellsUptoSaid : Prop := canvassTellsUptoRow.holds Try.pinned (OpenSpec.upto canvassTellsSpec)

/-- 'suffragelaw26.RecordTells', WHERE WHAT IT READS IS OF BULK AT MOST 1048576: true; the input reads as it did. -/
def recordTellsUptoRow : OpenClaim := { program := "ytkjgddcjhikdgaa", sum := "4918c33cb2a123977264c3dd137e9f806b44f3b0456f7c8912a938dd2677c324", func := "suffrage/suffragelaw26.RecordTells", spec := "recordTells", unfollowed := true, recurses := true, apart := false, narrowed := true }
def RecordTellsUptoSaid : Prop := recordTellsUptoRow.holds Try.pinned (OpenSpec.upto recordTellsSpec)

/-- 'suffragelaw26.RecordReads', WHERE WHAT IT READS IS OF BULK AT MOST 1048576: true; the input reads as it did. -/
def recordReadsUptoRow : OpenClaim := { program := "ytkjgddcjhikdgaa", sum := "4918c33cb2a123977264c3dd137e9f806b44f3b0456f7c8912a938dd2677c324", func := "suffrage/suffragelaw26.RecordReads", spec := "recordReads", unfollowed := true, recurses := true, apart := false, narrowed := true }
def RecordReadsUptoSaid : Prop := recordReadsUptoRow.holds Try.pinned (OpenSpec.upto recordReadsSpec)

/-- 'suffragelaw27.CanvassCompares', WHERE WHAT IT READS IS OF BULK AT MOST 1048576: true; the input reads as it did. -/
def canvassComparesUptoRow : OpenClaim := { program := "ytkjgddcjhikdgaa", sum := "4918c33cb2a123977264c3dd137e9f806b44f3b0456f7c8912a938dd2677c324", func := "suffrage/suffragelaw27.CanvassCompares", spec := "canvassCompares", unfollowed := true, recurses := true, apart := false, narrowed := true }
def CanvassComparesUptoSaid : Prop := canvassComparesUptoRow.holds Try.pinned (OpenSpec.upto canvassComparesSpec)

/-- 'suffragelaw27.CanvassDue', WHERE WHAT IT READS IS OF BULK AT MOST 1048576: true; the input reads as it did. -/
def canvassDueUptoRow : OpenClaim := { program := "ytkjgddcjhikdgaa", sum := "4918c33cb2a123977264c3dd137e9f806b44f3b0456f7c8912a938dd2677c324", func := "suffrage/suffragelaw27.CanvassDue", spec := "canvassDue", named := ["math/bits.overflowError"], apart := false, narrowed := true }
def CanvassDueUptoSaid : Prop := canvassDueUptoRow.holds Try.pinned (OpenSpec.upto canvassDueSpec)

/-- 'suffragelaw27.CanvassLimits', WHERE WHAT IT READS IS OF BULK AT MOST 1048576: true; the input reads as it did. -/
def canvassLimitsUptoRow : OpenClaim := { program := "ytkjgddcjhikdgaa", sum := "4918c33cb2a123977264c3dd137e9f806b44f3b0456f7c8912a938dd2677c324", func := "suffrage/suffragelaw27.CanvassLimits", spec := "canvassLimits", unfollowed := true, recurses := true, named := ["math/bits.overflowError"], apart := false, narrowed := true }
def CanvassLimitsUptoSaid : Prop := canvassLimitsUptoRow.holds Try.pinned (OpenSpec.upto canvassLimitsSpec)

/-- 'suffragelaw27.CanvassFits', WHERE WHAT IT READS IS OF BULK AT MOST 1048576: true; the input reads as it did. -/
def canvassFitsUptoRow : OpenClaim := { program := "ytkjgddcjhikdgaa", sum := "4918c33cb2a123977264c3dd137e9f806b44f3b0456f7c8912a938dd2677c324", func := "suffrage/suffragelaw27.CanvassFits", spec := "canvassFits", unfollowed := true, recurses := true, named := ["math/bits.overflowError"], apart := false, narrowed := true }
def CanvassFitsUptoSaid : Prop := canvassFitsUptoRow.holds Try.pinned (OpenSpec.upto canvassFitsSpec)

/-- 'suffragelaw26.RecordOrder', WHERE WHAT IT READS IS OF BULK AT MOST 1048576: true; the input reads as it did. -/
def recordOrderUptoRow : OpenClaim := { program := "ytkjgddcjhikdgaa", sum := "4918c33cb2a123977264c3dd137e9f806b44f3b0456f7c8912a938dd2677c324", func := "suffrage/suffragelaw26.RecordOrder", spec := "recordOrder", inPlace := ["slices.overlaps[suffrage/api.Row]"], unfollowed := true, recurses := true, apart := false, narrowed := true }
def RecordOrderUptoSaid : Prop := recordOrderUptoRow.holds Try.pinned (OpenSpec.upto recordOrderSpec)

/-- 'suffragelaw27.CanvassSame', WHERE WHAT IT READS IS OF BULK AT MOST 1048576: true; the input reads as it did. -/
def canvassSameUptoRow : OpenClaim := { program := "ytkjgddcjhikdgaa", sum := "4918c33cb2a123977264c3dd137e9f806b44f3b0456f7c8912a938dd2677c324", func := "suffrage/suffragelaw27.CanvassSame", spec := "canvassSame", unfollowed := true, recurses := true, named := ["math/bits.overflowError"], apart := false, narrowed := true }
def CanvassSameUptoSaid : Prop := canvassSameUptoRow.holds Try.pinned (OpenSpec.upto canvassSameSpec)

/-- 'suffragelaw26.RecordSums', WHERE WHAT IT READS IS OF BULK AT MOST 1048576: true; the input reads as it did. -/
def recordSumsUptoRow : OpenClaim := { program := "ytkjgddcjhikdgaa", sum := "4918c33cb2a123977264c3dd137e9f806b44f3b0456f7c8912a938dd2677c324", func := "suffrage/suffragelaw26.RecordSums", spec := "recordSums", inPlace := ["slices.overlaps[suffrage/api.Row]"], unfollowed := true, recurses := true, apart := false, narrowed := true }
def RecordSumsUptoSaid : Prop := recordSumsUptoRow.holds Try.pinned (OpenSpec.upto recordSumsSpec)

/-- 'suffragelaw26.RecordGrows', WHERE WHAT IT READS IS OF BULK AT MOST 1048576: true; the input reads as it did. -/
def recordGrowsUptoRow : OpenClaim := { program := "ytkjgddcjhikdgaa", sum := "4918c33cb2a123977264c3dd137e9f806b44f3b0456f7c8912a938dd2677c324", func := "suffrage/suffragelaw26.RecordGrows", spec := "recordGrows", inPlace := ["slices.overlaps[suffrage/api.Row]"], unfollowed := true, recurses := true, apart := false, narrowed := true }
def RecordGrowsUptoSaid : Prop := recordGrowsUptoRow.holds Try.pinned (OpenSpec.upto recordGrowsSpec)

/-- 'suffragelaw27.CanvassNames', WHERE WHAT IT READS IS OF BULK AT MOST 1048576: true; the input reads as it did. -/
def canvassNamesUptoRow : OpenClaim := { program := "ytkjgddcjhikdgaa", sum := "4918c33cb2a123977264c3dd137e9f806b44f3b0456f7c8912a938dd2677c324", func := "suffrage/suffragelaw27.CanvassNames", spec := "canvassNames", unfollowed := true, recurses := true, named := ["math/bits.overflowError"], apart := false, narrowed := true }
def CanvassNamesUptoSaid : Prop := canvassNamesUptoRow.holds Try.pinned (OpenSpec.upto canvassNamesSpec)

/-- 'suffragelaw26.RecordNames', WHERE WHAT IT READS IS OF BULK AT MOST 1048576: true; the input reads as it did. -/
def recordNamesUptoRow : OpenClaim := { program := "ytkjgddcjhikdgaa", sum := "4918c33cb2a123977264c3dd137e9f806b44f3b0456f7c8912a938dd2677c324", func := "suffrage/suffragelaw26.RecordNames", spec := "recordNames", inPlace := ["slices.overlaps[suffrage/api.Row]"], unfollowed := true, recurses := true, apart := false, narrowed := true }
def RecordNamesUptoSaid : Prop := recordNamesUptoRow.holds Try.pinned (OpenSpec.upto recordNamesSpec)

/-- 'suffragelaw26.RecordBack', WHERE WHAT IT READS IS OF BULK AT MOST 1048576: true; the input reads as it did. -/
def recordBackUptoRow : OpenClaim := { program := "ytkjgddcjhikdgaa", sum := "4918c33cb2a123977264c3dd137e9f806b44f3b0456f7c8912a938dd2677c324", func := "suffrage/suffragelaw26.RecordBack", spec := "recordBack", inPlace := ["slices.overlaps[suffrage/api.Row]"], unfollowed := true, recurses := true, apart := false, narrowed := true }
def RecordBackUptoSaid : Prop := recordBackUptoRow.holds Try.pinned (OpenSpec.upto recordBackSpec)

end Rows
end Go.Proofs.Ytkjgddcjhikdgaa
