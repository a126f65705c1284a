/- What the law needs beside. -/
import Derived.Test.YthcbkhfmdginiaaGreatAGAdd
import Derived.Test.YthcbkhfmdginiaaGreatAGBal
import Derived.Test.YthcbkhfmdginiaaGreatAGCan
import Derived.Test.YthcbkhfmdginiaaGreatAGCho
import Derived.Test.YthcbkhfmdginiaaGreatAGDec
import Derived.Test.YthcbkhfmdginiaaGreatAGFoot
import Derived.Test.YthcbkhfmdginiaaGreatAGGreA
import Derived.Test.YthcbkhfmdginiaaGreatAGGreI
import Derived.Test.YthcbkhfmdginiaaGreatAGGreM
import Derived.Test.YthcbkhfmdginiaaGreatAGMeeI
import Derived.Test.YthcbkhfmdginiaaGreatAGMeeK
import Derived.Test.YthcbkhfmdginiaaGreatAGMeeM
import Derived.Test.YthcbkhfmdginiaaGreatAGMeeP
import Derived.Test.YthcbkhfmdginiaaGreatAGMeeW
import Derived.Test.YthcbkhfmdginiaaGreatAGMeeX
import Derived.Test.YthcbkhfmdginiaaGreatAGNat
import Derived.Test.YthcbkhfmdginiaaGreatAGNatR
import Derived.Test.YthcbkhfmdginiaaGreatAGOne
import Derived.Test.YthcbkhfmdginiaaGreatAGProf
import Derived.Test.YthcbkhfmdginiaaGreatAGPut
import Derived.Test.YthcbkhfmdginiaaGreatAGR18
import Derived.Test.YthcbkhfmdginiaaGreatAGRat
import Derived.Test.YthcbkhfmdginiaaGreatAGRead
import Derived.Test.YthcbkhfmdginiaaGreatAGRen
import Derived.Test.YthcbkhfmdginiaaGreatAGRul
import Derived.Test.YthcbkhfmdginiaaGreatAGSam
import Derived.Test.YthcbkhfmdginiaaGreatAGSame
import Derived.Test.YthcbkhfmdginiaaGreatAGWakG

namespace Go.Proofs.YthcbkhfmdginiaaGreat

section
variable (C seats : Nat) (rows : List Row)
end
theorem up_unit {r : Int} : upU r 1000000000 = r := by unfold upU; omega
end Go.Proofs.YthcbkhfmdginiaaGreat
