/- Texts of one claim, put together: NatA, RatW, RatF. -/
import Derived.Test.YtakcgoehnkognaaGreatDGNat
import Derived.Test.YtakcgoehnkognaaGreatDGOne
import Derived.Test.YtakcgoehnkognaaGreatDGRat
import Derived.Test.YtakcgoehnkognaaGreatDGRul
import Derived.Test.YtakcgoehnkognaaGreatDGSam

namespace Go.Proofs.YtakcgoehnkognaaGreat
open Go Go.RowKit Go.Shelf Limb

theorem lim_small_len {n : Nat} (h : n < 9223372036854775808) : (lim n).length ≤ 2 := lim_length_le (k := 2) (by simp only [pw]; omega)
end Go.Proofs.YtakcgoehnkognaaGreat

namespace Go.Proofs.YtakcgoehnkognaaGreat
open Go Go.RowKit Go.Shelf Limb

structure Pos (w : World) (v1 v2 : Value) (m n : Nat) : Prop where
  num : NumAt w v1 m
  den : NumAt w v2 n
  ok : ratChk false (lim m) (lim n) = 0
  l1 : (lim m).length ≤ 96
  l2 : (lim n).length ≤ 96
  pos : 0 < n
theorem Pos.same {w w' : World} {v1 v2 : Value} {m n : Nat} (h : Pos w v1 v2 m n) (hb : Below w.heap.size w w') : Pos w' v1 v2 m n := ⟨h.num.same hb, h.den.same hb, h.ok, h.l1, h.l2, h.pos⟩
structure AddFit (m1 n1 m2 n2 : Nat) : Prop where
  f1 : (lim (m1 * n2)).length ≤ 96
  f2 : (lim (m2 * n1)).length ≤ 96
  f3 : (lim (n1 * n2)).length ≤ 96
  f4 : (lim (m1 * n2 + m2 * n1)).length ≤ 96
end Go.Proofs.YtakcgoehnkognaaGreat
