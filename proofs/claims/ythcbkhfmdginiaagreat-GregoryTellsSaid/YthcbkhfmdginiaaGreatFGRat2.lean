/- Texts of one claim, put together: NatA, RatW, RatF. -/
import Derived.Test.YthcbkhfmdginiaaGreatFGNat
import Derived.Test.YthcbkhfmdginiaaGreatFGOne
import Derived.Test.YthcbkhfmdginiaaGreatFGRat
import Derived.Test.YthcbkhfmdginiaaGreatFGRul
import Derived.Test.YthcbkhfmdginiaaGreatFGSam

namespace Go.Proofs.YthcbkhfmdginiaaGreat
open Go Go.RowKit Go.Shelf Limb

structure Pos (w : World) (v1 v2 : Value) (m n : Nat) : Prop where
 num : NumAt w v1 m
 den : NumAt w v2 n
 ok : ratChk false (lim m) (lim n) = 0
 l1 : (lim m).length ≤ 96
 l2 : (lim n).length ≤ 96
 pos : 0 < n
theorem Pos.same {w w' : World} {v1 v2 : Value} {m n : Nat} (h : Pos w v1 v2 m n) (hb : Below w.heap.size w w') : Pos w' v1 v2 m n := ⟨h.num.same hb, h.den.same hb, h.ok, h.l1, h.l2, h.pos⟩
structure AddFit (m1 n1 m2 n2 : Nat) : Prop where
 f1 : (lim (m1 * n2)).length ≤ 96
 f2 : (lim (m2 * n1)).length ≤ 96
 f3 : (lim (n1 * n2)).length ≤ 96
 f4 : (lim (m1 * n2 + m2 * n1)).length ≤ 96
end Go.Proofs.YthcbkhfmdginiaaGreat
