/- Texts of one claim,put together: WakG,WakH,LawG. -/
import Derived.Test.YthcbkhfmdginiaaGreatRGGreM
import Derived.Test.YthcbkhfmdginiaaGreatRGR18
import Derived.Test.YthcbkhfmdginiaaGreatRGSam
import Derived.Test.YthcbkhfmdginiaaGreatRGRul

namespace Go.Proofs.YthcbkhfmdginiaaGreat
open Go Go.RowKit Go.Shelf Limb

def mayG (p : Prof) (seats : Int) (lot : List Int) : Bool := rankI p seats lot == 0
theorem ApartV.symm {u v : Value} (h : ApartV u v) : ApartV v u := fun b hb e => h b e hb
theorem ApartV.nil (v : Value) : ApartV v (.slice none 0 0) := fun _ _ e => by cases e
section
variable {P : Program} (w : World)
end
end Go.Proofs.YthcbkhfmdginiaaGreat
