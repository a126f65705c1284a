/- Texts of one claim,put together: MeeG,MeeH,ChoBM,MeeI,MeeJ. -/
import Derived.Test.YthcbkhfmdginiaaGreatRGGreA
import Derived.Test.YthcbkhfmdginiaaGreatRGAdd
import Derived.Test.YthcbkhfmdginiaaGreatRGMeeP
import Derived.Test.YthcbkhfmdginiaaGreatRGRen
import Derived.Test.YthcbkhfmdginiaaGreatRGCho
import Derived.Test.YthcbkhfmdginiaaGreatRGProf
import Derived.StillTailTactics

namespace Go.Proofs.YthcbkhfmdginiaaGreat
section
open Go Go.RowKit Go.Shelf

structure MV where
 ve : Value
 vrd : Value
 vt : Value
 vk : Value
 vL : Value
 vh : Value
 vr : Value
 vo : Value
structure MP where
 K : List Int
 inn : List Int
 had : List Int
 el : List Int
 re : List Int
 ro : List Int
 turns : Int
 lost : Int
 quota : Int
 rounds : List Rnd
 ties : List Tie
structure MCn where
 lo : Nat
 gC : Nat
 gc : Nat
 p : Prof
 vp : Value
 seats : Int
 votes : Int
 lot : List Int
 vl : Value
 X : Nat → Obj → Prop
def MCn.cells (k : MCn) (v : MV) (s : MP) : Array Value := #[.pointer (some ⟨k.gC,0,none⟩),.int .i64 k.p.cands,.int .u8 k.p.kind,k.vp,.int .i64 k.seats,.int .i64 k.votes,v.vk,v.vL,.int .i64 s.turns,v.vh,.int .i64 s.lost,.int .i64 s.quota,.slice none 0 0,.bool false,.slice none 0 0,.slice none 0 0,v.vr,v.vo]
def MCn.M (k : MCn) (v : MV) : Nat → Option Nat
 | 0 => some k.gC
 | 1 => some k.gc
 | 2 => v.ve.ownBlock
 | 3 => v.vrd.ownBlock
 | 4 => v.vt.ownBlock
 | 5 => v.vk.ownBlock
 | 6 => v.vL.ownBlock
 | 7 => v.vh.ownBlock
 | 8 => v.vr.ownBlock
 | _ => none
def MCn.R (k : MCn) (w : World) (v : MV) : Nat → Prop := fun b => k.gc + 1 ≤ b ∧ b < w.heap.size ∧ ∀ i,k.M v i ≠ some b
def MCn.T (k : MCn) (w : World) (v : MV) : Nat → Prop := fun b => b < w.heap.size ∧ ∀ i,k.M v i ≠ some b
structure MSt (k : MCn) (w : World) (v : MV) (s : MP) : Prop where
 bC : w.heap[k.gC]? = some (.cells #[v.ve,v.vrd,v.vt,k.vl] 97 (0,0))
 bc : w.heap[k.gc]? = some (.cells (k.cells v s) 110 (0,0))
 oe : Own (k.gc + 1) 3 1 (dInt .i64) w v.ve s.el
 ord : Own (k.gc + 1) 58 6 (dRnd (k.R w v)) w v.vrd s.rounds
 ot : Own (k.gc + 1) 115 2 (dTie (k.R w v)) w v.vt s.ties
 ok : Own (k.gc + 1) 3 1 (dInt .i64) w v.vk s.K
 oL : Own k.lo 3 1 (dInt .i64) w v.vL s.inn
 oh : Own (k.gc + 1) 3 1 (dInt .i64) w v.vh s.had
 or : Own (k.gc + 1) 3 1 (dInt .i64) w v.vr s.re
 oo : RInts (k.R w v) w v.vo s.ro
 ap : ∀ i j b,k.M v i = some b → k.M v j = some b → i = j
 lot : RInts (k.T w v) w k.vl k.lot
 rows : RRows (fun b => b < k.lo) w k.vp k.p.rows
 bx : ∀ b o,k.X b o → w.heap[b]? = some o ∧ ∀ i,k.M v i ≠ some b
 l1 : k.lo ≤ k.gC
 l2 : k.gC < k.gc
section
variable {k : MCn} {w w1 : World} {v v' : MV} {s s' : MP}
theorem MSt.big (h : MSt k w v s) : k.gc + 1 ≤ w.heap.size := qa0 h.bc
theorem MSt.low (h : MSt k w v s) : ∀ i b,k.M v i = some b → k.lo ≤ b ∧ b < w.heap.size := by
 have l1 := h.l1
 have l2 := h.l2
 have hg := h.big
 intro i b hb
 match i,hb with
 | 0,hb => cases hb;omega
 | 1,hb => cases hb;omega
 | 2,hb => have := Own.lt h.oe b hb;omega
 | 3,hb => have := Own.lt h.ord b hb;omega
 | 4,hb => have := Own.lt h.ot b hb;omega
 | 5,hb => have := Own.lt h.ok b hb;omega
 | 6,hb => have := Own.lt h.oL b hb;omega
 | 7,hb => have := Own.lt h.oh b hb;omega
 | 8,hb => have := Own.lt h.or b hb;omega
 | n + 9,hb => cases hb
theorem MSt.out (h : MSt k w v s) {I : List Nat} {j : Nat} (hj : j ∉ I) : ∀ b,k.M v j = some b → some b ∉ I.map (k.M v) := fun b hb hm => by
 obtain ⟨i,hi,he⟩ := List.mem_map.1 hm
 exact hj (h.ap i j b he hb ▸ hi)
theorem MSt.free {I : List Nat} {b : Nat} (hb : ∀ i,k.M v i ≠ some b) : some b ∉ I.map (k.M v) := fun hm => by
 obtain ⟨i,-,he⟩ := List.mem_map.1 hm
 exact hb i he
theorem MSt.move (h : MSt k w v s) (I : List Nat) (hk : Keep (I.map (k.M v)) w w1) (v' : MV) (s' : MP)
  (hM : ∀ i b,k.M v' i = some b → k.M v i = some b ∨ w.heap.size ≤ b) (hN : ∀ i j b,w.heap.size ≤ b → k.M v' i = some b → k.M v' j = some b → i = j)
  (c0 : (v'.ve = v.ve ∧ v'.vrd = v.vrd ∧ v'.vt = v.vt) ∧ 0 ∉ I ∨ w1.heap[k.gC]? = some (.cells #[v'.ve,v'.vrd,v'.vt,k.vl] 97 (0,0)))
  (c1 : k.cells v' s' = k.cells v s ∧ 1 ∉ I ∨ w1.heap[k.gc]? = some (.cells (k.cells v' s') 110 (0,0)))
  (c2 : (v'.ve = v.ve ∧ s'.el = s.el) ∧ 2 ∉ I ∨ Own (k.gc + 1) 3 1 (dInt .i64) w1 v'.ve s'.el)
  (c3 : (v'.vrd = v.vrd ∧ s'.rounds = s.rounds) ∧ 3 ∉ I ∨ Own (k.gc + 1) 58 6 (dRnd (k.R w1 v')) w1 v'.vrd s'.rounds)
  (c4 : (v'.vt = v.vt ∧ s'.ties = s.ties) ∧ 4 ∉ I ∨ Own (k.gc + 1) 115 2 (dTie (k.R w1 v')) w1 v'.vt s'.ties)
  (c5 : (v'.vk = v.vk ∧ s'.K = s.K) ∧ 5 ∉ I ∨ Own (k.gc + 1) 3 1 (dInt .i64) w1 v'.vk s'.K)
  (c6 : (v'.vL = v.vL ∧ s'.inn = s.inn) ∧ 6 ∉ I ∨ Own k.lo 3 1 (dInt .i64) w1 v'.vL s'.inn)
  (c7 : (v'.vh = v.vh ∧ s'.had = s.had) ∧ 7 ∉ I ∨ Own (k.gc + 1) 3 1 (dInt .i64) w1 v'.vh s'.had)
  (c8 : (v'.vr = v.vr ∧ s'.re = s.re) ∧ 8 ∉ I ∨ Own (k.gc + 1) 3 1 (dInt .i64) w1 v'.vr s'.re)
  (c9 : v'.vo = v.vo ∧ s'.ro = s.ro ∨ RInts (k.R w1 v') w1 v'.vo s'.ro) : MSt k w1 v' s' := by
 have hz := hk.size
 have up : ∀ b,k.R w v b → k.R w1 v' b := fun b ⟨h1,h2,h3⟩ => ⟨h1,by omega,fun i hi => by
  rcases hM i b hi with e | e
  ·exact h3 i e
  ·omega⟩
 have upT : ∀ b,k.T w v b → k.T w1 v' b := fun b ⟨h2,h3⟩ => ⟨by omega,fun i hi => by
  rcases hM i b hi with e | e
  ·exact h3 i e
  ·omega⟩
 have outR : ∀ b,k.R w v b → some b ∉ I.map (k.M v) := fun b hb => MSt.free hb.2.2
 have ints : ∀ {base : Nat} {u : Value} {l : List Int} (j : Nat),Own base 3 1 (dInt .i64) w u l → (∀ b,u.ownBlock = some b → k.M v j = some b) → j ∉ I → Own base 3 1 (dInt .i64) w1 u l := fun j ho hu hj =>
  hk.own (S := fun _ => False) (dInt.stable _ _) ho (fun b hb => h.out hj b (hu b hb)) (fun _ h => h.elim)
 refine ⟨?_,?_,?_,?_,?_,?_,?_,?_,?_,?_,?_,?_,?_,?_,h.l1,h.l2⟩
 ·rcases c0 with ⟨⟨e1, e2, e3⟩, hi⟩ | c
  ·rw [e1,e2,e3];exact hk.box h.bC (h.out hi _ rfl)
  ·exact c
 ·rcases c1 with ⟨e1, hi⟩ | c
  ·rw [e1];exact hk.box h.bc (h.out hi _ rfl)
  ·exact c
 ·rcases c2 with ⟨⟨e1, e2⟩, hi⟩ | c
  ·rw [e1,e2];exact ints 2 h.oe (fun b hb => hb) hi
  ·exact c
 ·rcases c3 with ⟨⟨e1, e2⟩, hi⟩ | c
  ·rw [e1,e2];exact Own.dmono (fun _ _ hd => dRnd.mono up hd) (hk.own (dRnd.stable _) h.ord (fun b hb => h.out hi b hb) outR)
  ·exact c
 ·rcases c4 with ⟨⟨e1, e2⟩, hi⟩ | c
  ·rw [e1,e2];exact Own.dmono (fun _ _ hd => dTie.mono up hd) (hk.own (dTie.stable _) h.ot (fun b hb => h.out hi b hb) outR)
  ·exact c
 ·rcases c5 with ⟨⟨e1, e2⟩, hi⟩ | c
  ·rw [e1,e2];exact ints 5 h.ok (fun b hb => hb) hi
  ·exact c
 ·rcases c6 with ⟨⟨e1, e2⟩, hi⟩ | c
  ·rw [e1,e2];exact ints 6 h.oL (fun b hb => hb) hi
  ·exact c
 ·rcases c7 with ⟨⟨e1, e2⟩, hi⟩ | c
  ·rw [e1,e2];exact ints 7 h.oh (fun b hb => hb) hi
  ·exact c
 ·rcases c8 with ⟨⟨e1, e2⟩, hi⟩ | c
  ·rw [e1,e2];exact ints 8 h.or (fun b hb => hb) hi
  ·exact c
 ·rcases c9 with ⟨e1, e2⟩ | c
  ·rw [e1,e2];exact (hk.rints h.oo outR).mono up
  ·exact c
 ·intro i j b hi hj
  rcases hM i b hi with e | e
  ·rcases hM j b hj with e2 | e2
   ·exact h.ap i j b e e2
   ·have := (h.low i b e).2;omega
  ·exact hN i j b e hi hj
 ·exact (hk.rints h.lot (fun b hb => MSt.free hb.2)).mono upT
 ·exact RSl.same (dRow.stable _) (hk.same fun b hb hm => by
   obtain ⟨i,-,he⟩ := List.mem_map.1 hm
   have := (h.low i b he).1
   omega) h.rows
 ·intro b o hx
  obtain ⟨h1,h2⟩ := h.bx b o hx
  refine ⟨hk.box h1 (MSt.free h2),fun i hi => ?_⟩
  rcases hM i b hi with e | e
  ·exact h2 i e
  ·have := qa0 h1;omega
theorem MSt.below (h : MSt k w v s) (hb : Below w.heap.size w w1) : MSt k w1 v s :=
 h.move [] (Keep.of_below hb) v s (fun _ _ h => .inl h) (fun i j b hb hi _ => by have := (h.low i b hi).2;omega)
  (.inl ⟨⟨rfl,rfl,rfl⟩,List.not_mem_nil⟩) (.inl ⟨rfl,List.not_mem_nil⟩) (.inl ⟨⟨rfl,rfl⟩,List.not_mem_nil⟩) (.inl ⟨⟨rfl,rfl⟩,List.not_mem_nil⟩) (.inl ⟨⟨rfl,rfl⟩,List.not_mem_nil⟩) (.inl ⟨⟨rfl,rfl⟩,List.not_mem_nil⟩) (.inl ⟨⟨rfl,rfl⟩,List.not_mem_nil⟩) (.inl ⟨⟨rfl,rfl⟩,List.not_mem_nil⟩) (.inl ⟨⟨rfl,rfl⟩,List.not_mem_nil⟩) (.inl ⟨rfl,rfl⟩)
theorem MSt.stay (h : MSt k w v s) : (∀ i b,k.M v i = some b → k.M v i = some b ∨ w.heap.size ≤ b) ∧ ∀ i j b,w.heap.size ≤ b → k.M v i = some b → k.M v j = some b → i = j :=
 ⟨fun _ _ h => .inl h,fun i j b hb hi _ => by have := (h.low i b hi).2;omega⟩
theorem MSt.keepL (h : MSt k w v s) {I : List Nat} (hk : Keep (I.map (k.M v)) w w1) : Below k.lo w w1 :=
 hk.below (fun b hb hm => by
  obtain ⟨i,-,he⟩ := List.mem_map.1 hm
  have := (h.low i b he).1
  omega) (by have := h.big;have := h.l1;have := h.l2;omega)
theorem MSt.put (h : MSt k w v s) (o : Nat) (u : Value) (v' : MV) (s' : MP) (hc : (k.cells v s).setIfInBounds o u = k.cells v' s') (hM : ∀ i b,k.M v' i = some b → k.M v i = some b)
  (e0 : v'.ve = v.ve ∧ v'.vrd = v.vrd ∧ v'.vt = v.vt) (e2 : s'.el = s.el) (e3 : s'.rounds = s.rounds) (e4 : s'.ties = s.ties) (e5 : v'.vk = v.vk ∧ s'.K = s.K) (e6 : v'.vL = v.vL ∧ s'.inn = s.inn)
  (e7 : v'.vh = v.vh ∧ s'.had = s.had ∨ v'.vh = .slice none 0 0 ∧ s'.had = []) (e8 : v'.vr = v.vr ∧ s'.re = s.re ∨ v'.vr = .slice none 0 0 ∧ s'.re = []) (e9 : v'.vo = v.vo ∧ s'.ro = s.ro ∨ RInts (k.R w v) w v'.vo s'.ro) :
  MSt k (w.setCell ⟨k.gc,o,none⟩ u) v' s' ∧ Keep [some k.gc] w (w.setCell ⟨k.gc,o,none⟩ u) := by
 have hk : Keep ([1].map (k.M v)) w (w.setCell ⟨k.gc,o,none⟩ u) := (Keep.refl _ w).setIn _ _ _ (.inl (by simp [MCn.M]))
 refine ⟨h.move [1] hk v' s' (fun i b hi => .inl (hM i b hi)) (fun i j b hb hi _ => by have := (h.low i b (hM i b hi)).2;omega)
  (.inl ⟨e0,by decide⟩) (.inr (by rw [qa2 h.bc,hc])) (.inl ⟨⟨e0.1,e2⟩,by decide⟩) (.inl ⟨⟨e0.2.1,e3⟩,by decide⟩) (.inl ⟨⟨e0.2.2,e4⟩,by decide⟩) (.inl ⟨e5,by decide⟩) (.inl ⟨e6,by decide⟩) ?_ ?_ ?_,hk⟩
 ·rcases e7 with e | ⟨e1, e2⟩
  ·exact .inl ⟨e,by decide⟩
  ·exact .inr (by rw [e1,e2];exact Own.nil _ _ _ _ _)
 ·rcases e8 with e | ⟨e1, e2⟩
  ·exact .inl ⟨e,by decide⟩
  ·exact .inr (by rw [e1,e2];exact Own.nil _ _ _ _ _)
 ·rcases e9 with e | e
  ·exact .inl e
  ·refine .inr (RInts.mono (fun b hb => ⟨hb.1,Nat.lt_of_lt_of_le hb.2.1 hk.size,fun i hi => hb.2.2 i (hM i b hi)⟩) (hk.rints e fun b hb => MSt.free hb.2.2))
end
end

section
open Go Go.RowKit Go.Shelf

section
variable {k : MCn} {w w1 : World} {v v' : MV} {s s' : MP}
theorem Mv.to {w : World} {v v' : Value} (h : Mv w v v') : ∀ b,v'.ownBlock = some b → v.ownBlock = some b ∨ w.heap.size ≤ b := fun b hb => by
 rcases h with h | ⟨c,h,hc⟩
 ·exact .inl (h ▸ hb)
 ·rw [h] at hb;cases hb;exact .inr hc
theorem MSt.moved (h : MSt k w v s) (j : Nat) (he : ∀ i,i ≠ j → k.M v' i = k.M v i) (hm : ∀ b,k.M v' j = some b → k.M v j = some b ∨ w.heap.size ≤ b) :
  (∀ i b,k.M v' i = some b → k.M v i = some b ∨ w.heap.size ≤ b) ∧ ∀ i j b,w.heap.size ≤ b → k.M v' i = some b → k.M v' j = some b → i = j := by
 have key : ∀ i b,w.heap.size ≤ b → k.M v' i = some b → i = j := fun i b hb hi => by
  by_cases e : i = j
  ·exact e
  ·rw [he i e] at hi
   have := (h.low i b hi).2
   omega
 refine ⟨fun i b hi => ?_,fun i i' b hb h1 h2 => (key i b hb h1).trans (key i' b hb h2).symm⟩
 by_cases e : i = j
 ·subst e;exact hm b hi
 ·exact .inl (he i e ▸ hi)
theorem MSt.up (hz : w.heap.size ≤ w1.heap.size) (hM : ∀ i b,k.M v' i = some b → k.M v i = some b ∨ w.heap.size ≤ b) : ∀ b,k.R w v b → k.R w1 v' b := fun b ⟨h1,h2,h3⟩ => ⟨h1,by omega,fun i hi => by
 rcases hM i b hi with e | e
 ·exact h3 i e
 ·omega⟩
theorem MSt.tell (h : MSt k w v s) {ts : List Tie} (hr : TellR (k.gc + 1) k.gC (k.R w v) v.ve v.vrd v.vt k.vl ts w w1) : ∃ vt',MSt k w1 { v with vt := vt' } { s with ties := ts } ∧ Keep ([0,4].map (k.M v)) w w1 := by
 obtain ⟨vt',k1,k2,k3,k4⟩ := hr.keep
 have hk : Keep ([0,4].map (k.M v)) w w1 := k3
 have he : ∀ i,i ≠ 4 → k.M { v with vt := vt' } i = k.M v i := by
  intro i hi
  rcases i with _ | _ | _ | _ | _ | _ | _ | _ | _ | i <;> first | rfl | exact absurd rfl hi
 obtain ⟨hM,hN⟩ := h.moved (v' := { v with vt := vt' }) 4 he k4.to
 have hg := h.big
 refine ⟨vt',h.move [0,4] hk { v with vt := vt' } { s with ties := ts } hM hN (.inr k1) (.inl ⟨rfl,by decide⟩) (.inl ⟨⟨rfl,rfl⟩,by decide⟩) (.inl ⟨⟨rfl,rfl⟩,by decide⟩) (.inr ?_) (.inl ⟨⟨rfl,rfl⟩,by decide⟩) (.inl ⟨⟨rfl,rfl⟩,by decide⟩) (.inl ⟨⟨rfl,rfl⟩,by decide⟩) (.inl ⟨⟨rfl,rfl⟩,by decide⟩) (.inl ⟨rfl,rfl⟩),hk⟩
 refine Own.dmono (fun _ _ hd => dTie.mono (fun b hb => ?_) hd) k2
 rcases hb with hb | ⟨h1,h2,h3⟩
 ·exact MSt.up hk.size hM b hb
 ·refine ⟨by omega, h2, fun i hi => ?_⟩
  by_cases e : i = 4
  ·subst e;exact h3 hi.symm
  ·rw [he i e] at hi
   have := (h.low i b hi).2
   omega
theorem MSt.elected (h : MSt k w v s) {ve' : Value} {el' : List Int} (hO : Own (k.gc + 1) 3 1 (dInt .i64) w1 ve' el') (hg : w.grownBy w1 v.ve.ownBlock) (hm : Mv w v.ve ve') :
  MSt k (w1.setCell ⟨k.gC,0,none⟩ ve') { v with ve := ve' } { s with el := el' } ∧ Keep ([0,2].map (k.M v)) w (w1.setCell ⟨k.gC,0,none⟩ ve') := by
 have hk1 : Keep ([2].map (k.M v)) w w1 := Keep.of_grown hg
 have hk : Keep ([0,2].map (k.M v)) w (w1.setCell ⟨k.gC,0,none⟩ ve') := Keep.set hk1 _ _ _
 have hC := hk1.box h.bC (h.out (j := 0) (by decide) _ rfl)
 obtain ⟨hM,hN⟩ := h.moved (v' := { v with ve := ve' }) 2 (by
  intro i hi
  rcases i with _ | _ | _ | _ | _ | _ | _ | _ | _ | i <;> first | rfl | exact absurd rfl hi) hm.to
 have l2 := h.l2
 refine ⟨h.move [0,2] hk { v with ve := ve' } { s with el := el' } hM hN (.inr (by rw [qa2 hC];rfl)) (.inl ⟨rfl,by decide⟩) (.inr ?_) (.inl ⟨⟨rfl,rfl⟩,by decide⟩) (.inl ⟨⟨rfl,rfl⟩,by decide⟩) (.inl ⟨⟨rfl,rfl⟩,by decide⟩) (.inl ⟨⟨rfl,rfl⟩,by decide⟩) (.inl ⟨⟨rfl,rfl⟩,by decide⟩) (.inl ⟨⟨rfl,rfl⟩,by decide⟩) (.inl ⟨rfl,rfl⟩),hk⟩
 exact Own.setCell (S := fun _ => False) (dInt.stable _ _) hO (p := ⟨k.gC,0,none⟩) (by dsimp only;omega) (fun h => h) _
theorem MSt.relected (h : MSt k w v s) {vr' : Value} {re' : List Int} (hO : Own (k.gc + 1) 3 1 (dInt .i64) w1 vr' re') (hg : w.grownBy w1 v.vr.ownBlock) (hm : Mv w v.vr vr') :
  MSt k (w1.setCell ⟨k.gc,16,none⟩ vr') { v with vr := vr' } { s with re := re' } ∧ Keep ([1,8].map (k.M v)) w (w1.setCell ⟨k.gc,16,none⟩ vr') := by
 have hk1 : Keep ([8].map (k.M v)) w w1 := Keep.of_grown hg
 have hk : Keep ([1,8].map (k.M v)) w (w1.setCell ⟨k.gc,16,none⟩ vr') := Keep.set hk1 _ _ _
 have hC := hk1.box h.bc (h.out (j := 1) (by decide) _ rfl)
 obtain ⟨hM,hN⟩ := h.moved (v' := { v with vr := vr' }) 8 (by
  intro i hi
  rcases i with _ | _ | _ | _ | _ | _ | _ | _ | _ | i <;> first | rfl | exact absurd rfl hi) hm.to
 refine ⟨h.move [1,8] hk { v with vr := vr' } { s with re := re' } hM hN (.inl ⟨⟨rfl,rfl,rfl⟩,by decide⟩) (.inr (by rw [qa2 hC];rfl)) (.inl ⟨⟨rfl,rfl⟩,by decide⟩) (.inl ⟨⟨rfl,rfl⟩,by decide⟩) (.inl ⟨⟨rfl,rfl⟩,by decide⟩) (.inl ⟨⟨rfl,rfl⟩,by decide⟩) (.inl ⟨⟨rfl,rfl⟩,by decide⟩) (.inl ⟨⟨rfl,rfl⟩,by decide⟩) (.inr ?_) (.inl ⟨rfl,rfl⟩),hk⟩
 exact Own.setCell (S := fun _ => False) (dInt.stable _ _) hO (p := ⟨k.gc,16,none⟩) (by dsimp only;omega) (fun h => h) _
theorem MSt.left (h : MSt k w v s) {vL' : Value} {inn' : List Int} (hO : Own k.lo 3 1 (dInt .i64) w1 vL' inn') (hg : w.grownBy w1 v.vL.ownBlock) (hob : vL'.ownBlock = v.vL.ownBlock) :
  MSt k (w1.setCell ⟨k.gc,7,none⟩ vL') { v with vL := vL' } { s with inn := inn' } ∧ Keep ([1,6].map (k.M v)) w (w1.setCell ⟨k.gc,7,none⟩ vL') := by
 have hk1 : Keep ([6].map (k.M v)) w w1 := Keep.of_grown hg
 have hk : Keep ([1,6].map (k.M v)) w (w1.setCell ⟨k.gc,7,none⟩ vL') := Keep.set hk1 _ _ _
 have hC := hk1.box h.bc (h.out (j := 1) (by decide) _ rfl)
 obtain ⟨hM,hN⟩ := h.moved (v' := { v with vL := vL' }) 6 (by
  intro i hi
  rcases i with _ | _ | _ | _ | _ | _ | _ | _ | _ | i <;> first | rfl | exact absurd rfl hi) (fun b hb => .inl (hob.symm.trans hb))
 refine ⟨h.move [1,6] hk { v with vL := vL' } { s with inn := inn' } hM hN (.inl ⟨⟨rfl,rfl,rfl⟩,by decide⟩) (.inr (by rw [qa2 hC];rfl)) (.inl ⟨⟨rfl,rfl⟩,by decide⟩) (.inl ⟨⟨rfl,rfl⟩,by decide⟩) (.inl ⟨⟨rfl,rfl⟩,by decide⟩) (.inl ⟨⟨rfl,rfl⟩,by decide⟩) (.inr ?_) (.inl ⟨⟨rfl,rfl⟩,by decide⟩) (.inl ⟨⟨rfl,rfl⟩,by decide⟩) (.inl ⟨rfl,rfl⟩),hk⟩
 refine ((Keep.refl [some k.gc] w1).setIn k.gc 7 vL' (.inl (by simp))).own (S := fun _ => False) (dInt.stable _ _) hO (fun b hb hm => ?_) (fun _ h => h.elim)
 have e : b = k.gc := Option.some.inj (List.mem_singleton.1 hm)
 subst e
 have := h.ap 6 1 k.gc (by show v.vL.ownBlock = _;rw [← hob];exact hb) rfl
 omega
theorem Own.setI {base : Nat} {w : World} {v : Value} {xs : List Int} {e : TypeId} (h : Own base e 1 (dInt .i64) w v xs) {g x : Nat} (hv : v.ownBlock = some g) (hx : x < xs.length) {y : Int} (hy : (Lit.int .i64 y).wf = true) : Own base e 1 (dInt .i64) (w.setCell ⟨g,x,none⟩ (.int .i64 y)) v (xs.set x y) := by
 have := Own.setAt (S := fun _ => False) (dInt.stable _ _) h hv (fun _ h => h.elim) (k := x) (j := 0) hx (by omega) (.int .i64 y) y (fun cs hd => by obtain ⟨rfl,-⟩ := hd;exact ⟨rfl,hy⟩)
 simpa using this
theorem MSt.setK (h : MSt k w v s) {g x : Nat} (hg : v.vk.ownBlock = some g) (hx : x < s.K.length) {y : Int} (hy : (Lit.int .i64 y).wf = true) :
  MSt k (w.setCell ⟨g,x,none⟩ (.int .i64 y)) v { s with K := s.K.set x y } ∧ Keep ([5].map (k.M v)) w (w.setCell ⟨g,x,none⟩ (.int .i64 y)) := by
 have hk : Keep ([5].map (k.M v)) w (w.setCell ⟨g,x,none⟩ (.int .i64 y)) := (Keep.refl _ w).setIn g x _ (.inl (by show some g ∈ [v.vk.ownBlock];rw [hg];simp))
 exact ⟨h.move [5] hk v { s with K := s.K.set x y } h.stay.1 h.stay.2 (.inl ⟨⟨rfl,rfl,rfl⟩,by decide⟩) (.inl ⟨rfl,by decide⟩) (.inl ⟨⟨rfl,rfl⟩,by decide⟩) (.inl ⟨⟨rfl,rfl⟩,by decide⟩) (.inl ⟨⟨rfl,rfl⟩,by decide⟩) (.inr (h.ok.setI hg hx hy)) (.inl ⟨⟨rfl,rfl⟩,by decide⟩) (.inl ⟨⟨rfl,rfl⟩,by decide⟩) (.inl ⟨⟨rfl,rfl⟩,by decide⟩) (.inl ⟨rfl,rfl⟩),hk⟩
theorem MSt.setH (h : MSt k w v s) {g x : Nat} (hg : v.vh.ownBlock = some g) (hx : x < s.had.length) {y : Int} (hy : (Lit.int .i64 y).wf = true) :
  MSt k (w.setCell ⟨g,x,none⟩ (.int .i64 y)) v { s with had := s.had.set x y } ∧ Keep ([7].map (k.M v)) w (w.setCell ⟨g,x,none⟩ (.int .i64 y)) := by
 have hk : Keep ([7].map (k.M v)) w (w.setCell ⟨g,x,none⟩ (.int .i64 y)) := (Keep.refl _ w).setIn g x _ (.inl (by show some g ∈ [v.vh.ownBlock];rw [hg];simp))
 exact ⟨h.move [7] hk v { s with had := s.had.set x y } h.stay.1 h.stay.2 (.inl ⟨⟨rfl,rfl,rfl⟩,by decide⟩) (.inl ⟨rfl,by decide⟩) (.inl ⟨⟨rfl,rfl⟩,by decide⟩) (.inl ⟨⟨rfl,rfl⟩,by decide⟩) (.inl ⟨⟨rfl,rfl⟩,by decide⟩) (.inl ⟨⟨rfl,rfl⟩,by decide⟩) (.inl ⟨⟨rfl,rfl⟩,by decide⟩) (.inr (h.oh.setI hg hx hy)) (.inl ⟨⟨rfl,rfl⟩,by decide⟩) (.inl ⟨rfl,rfl⟩),hk⟩
theorem MSt.newH (h : MSt k w v s) {vh' : Value} {had' : List Int} (hb : Below w.heap.size w w1) (hO : Own w.heap.size 3 1 (dInt .i64) w1 vh' had') :
  MSt k (w1.setCell ⟨k.gc,9,none⟩ vh') { v with vh := vh' } { s with had := had' } ∧ Keep ([1].map (k.M v)) w (w1.setCell ⟨k.gc,9,none⟩ vh') := by
 have hk : Keep ([1].map (k.M v)) w (w1.setCell ⟨k.gc,9,none⟩ vh') := (Keep.of_below hb).setIn _ _ _ (.inl (by simp [MCn.M]))
 have hC := qax hb h.bc
 have hg := h.big
 obtain ⟨hM,hN⟩ := h.moved (v' := { v with vh := vh' }) 7 (by
  intro i hi
  rcases i with _ | _ | _ | _ | _ | _ | _ | _ | _ | i <;> first | rfl | exact absurd rfl hi) (fun b hb => .inr (Own.lt hO b hb).1)
 refine ⟨h.move [1] hk { v with vh := vh' } { s with had := had' } hM hN (.inl ⟨⟨rfl,rfl,rfl⟩,by decide⟩) (.inr (by rw [qa2 hC];rfl)) (.inl ⟨⟨rfl,rfl⟩,by decide⟩) (.inl ⟨⟨rfl,rfl⟩,by decide⟩) (.inl ⟨⟨rfl,rfl⟩,by decide⟩) (.inl ⟨⟨rfl,rfl⟩,by decide⟩) (.inl ⟨⟨rfl,rfl⟩,by decide⟩) (.inr ?_) (.inl ⟨⟨rfl,rfl⟩,by decide⟩) (.inl ⟨rfl,rfl⟩),hk⟩
 exact Own.setCell (S := fun _ => False) (dInt.stable _ _) (Own.rebase hO hg) (p := ⟨k.gc,9,none⟩) (by dsimp only;omega) (fun h => h) _
theorem MSt.num (h : MSt k w v s) (o : Nat) (n : Int) (s' : MP) (hc : (k.cells v s).setIfInBounds o (.int .i64 n) = k.cells v s') (e1 : s'.el = s.el) (e2 : s'.rounds = s.rounds) (e3 : s'.ties = s.ties) (e4 : s'.K = s.K) (e5 : s'.inn = s.inn) (e6 : s'.had = s.had) (e7 : s'.re = s.re) (e8 : s'.ro = s.ro) :
  MSt k (w.setCell ⟨k.gc,o,none⟩ (.int .i64 n)) v s' ∧ Keep [some k.gc] w (w.setCell ⟨k.gc,o,none⟩ (.int .i64 n)) :=
 h.put o _ v s' hc (fun _ _ h => h) ⟨rfl,rfl,rfl⟩ e1 e2 e3 ⟨rfl,e4⟩ ⟨rfl,e5⟩ (.inl ⟨rfl,e6⟩) (.inl ⟨rfl,e7⟩) (.inl ⟨rfl,e8⟩)
theorem MSt.cell (h : MSt k w v s) : (∀ i,w.cell? ⟨k.gc,i,none⟩ = (k.cells v s)[i]?) ∧ (∀ i,w.frozen? ⟨k.gc,i,none⟩ = false) := (qa6 (Below.refl _ w) (qa0 h.bc) h.bc).2
theorem MSt.cellC (h : MSt k w v s) : (∀ i,w.cell? ⟨k.gC,i,none⟩ = #[v.ve,v.vrd,v.vt,k.vl][i]?) ∧ (∀ i,w.frozen? ⟨k.gC,i,none⟩ = false) := (qa6 (Below.refl _ w) (qa0 h.bC) h.bC).2
theorem MSt.grown (h : MSt k w v s) (j : Nat) (hg : w.grownBy w1 (k.M v j)) (h0 : j ≠ 0) (h1 : j ≠ 1) :
  (w1.heap[k.gC]? = some (.cells #[v.ve,v.vrd,v.vt,k.vl] 97 (0,0)) ∧ w1.heap[k.gc]? = some (.cells (k.cells v s) 110 (0,0))) ∧
  (∀ i,w1.cell? ⟨k.gC,i,none⟩ = #[v.ve,v.vrd,v.vt,k.vl][i]?) ∧ (∀ i,w1.frozen? ⟨k.gC,i,none⟩ = false) ∧ (∀ i,w1.cell? ⟨k.gc,i,none⟩ = (k.cells v s)[i]?) ∧ (∀ i,w1.frozen? ⟨k.gc,i,none⟩ = false) := by
 have hk : Keep ([j].map (k.M v)) w w1 := Keep.of_grown hg
 have e1 := hk.box h.bC (h.out (j := 0) (by simpa using fun e : 0 = j => h0 e.symm) _ rfl)
 have e2 := hk.box h.bc (h.out (j := 1) (by simpa using fun e : 1 = j => h1 e.symm) _ rfl)
 have f1 := qa6 (Below.refl _ w1) (qa0 e1) e1
 have f2 := qa6 (Below.refl _ w1) (qa0 e2) e2
 exact ⟨⟨e1,e2⟩,f1.2.1,f1.2.2,f2.2.1,f2.2.2⟩
def MP.elect (s : MP) (am : List Int) (x : Int) : MP := { s with inn := s.inn.filter fun y => !(y == x),el := s.el ++ [x],re := s.re ++ [x],ties := s.ties ++ tieL am x }
end
end

section
open Go Go.RowKit Go.Shelf

set_option maxHeartbeats 2000000 in
set_option maxRecDepth 100000 in
theorem choBestM (S : Nat → Prop) (v : Value) (l : List Int) (w : World) (h : RInts S w v l) (hl : l.length ≤ 1000000) (g : Nat) (r : Value) (eg : ∀ args w,(callFunc g args).run Tryz.prog w = .ok (.enter g args) w) (f : Int → Int)
  (hf : ∀ W x,Below w.heap.size w W → x ∈ l → Calls Tryz.prog g #[r,.int .i64 x] W fun e w' => e = .returned (.int .i64 (f x)) ∧ Below W.heap.size W w') :
  Calls Tryz.prog 125 #[v,.func (.func g) #[r] #[]] w (GivesI (bestL f l) w) := by
 obtain ⟨a,cap,rfl,h1,h2⟩ := RSl.shape h
 have hH := fun W (hW : Below w.heap.size w W) => h.same (.of_below hW)
 have hwf := RInts.wf h
 have HH := Lib.hid hH;have HF := Lib.hid hf;have Hwf := Lib.hid hwf
 clear hH hf hwf h
 go_enter Tryz.func125,Tryz.ntmps125
 go_wp2
 go_loopw [4,6,9] (fun s _ i wr => ∃ k : Nat,k ≤ l.length ∧ i = .int .i64 k ∧ Hid (Own w.heap.size 3 1 (dInt .i64) wr s (bestL f (l.take k))) ∧ Below w.heap.size w wr) (fun _ _ i _ => l.length - (intOf i).toNat)
 case atStart => exact ⟨0,Nat.zero_le _,rfl,Lib.hid (Own.nil _ _ _ _ _),Below.refl _ _⟩
 case round =>
  obtain ⟨k,hk,rfl,hO,hb⟩ := hrel
  obtain ⟨ao,co,hso⟩ := Own.shape hO.out
  obtain ⟨m,hm⟩ : ∃ m,(bestL f (l.take k)).length = m := ⟨_,rfl⟩
  rw [hm] at hso
  subst hso
  have hz := hb.size
  by_cases hlt : k < l.length
  ·obtain ⟨b, off, c, rfl, hS, hbw, hc, hx⟩ := RSl.at1 (HH.out wr hb) k hlt
   obtain ⟨rfl,hwfx⟩ := hx.open
   have hxm : l[k] ∈ l := List.getElem_mem hlt
   have htk := List.take_succ_eq_append_getElem hlt
   obtain ⟨x,hxe⟩ : ∃ x,l[k] = x := ⟨_,rfl⟩
   rw [hxe] at hc hwfx hxm htk
   have hml : m ≤ 1000000 := by rw [← hm];exact Nat.le_trans (List.length_filter_le _ _) (by rw [List.length_take];omega)
   have hne1 := fun (W : World) (hW : w.heap.size ≤ W.heap.size) => (show Own w.heap.size 3 1 (dInt .i64) (W.alloc (.cells #[.int .i64 x] 3)) (.slice (some ⟨W.heap.size,0,none⟩) 1 1) [x] from Own.one (cs := [.int .i64 x]) (qa8 W _) hW rfl ⟨rfl,hwfx⟩)
   rcases Nat.eq_zero_or_pos m with hm0 | hm0
   ·have hk0 : l.take k = [] := by
     rcases Nat.eq_zero_or_pos k with e | e
     ·rw [e,List.take_zero]
     ·exfalso
      have : l.take k ≠ [] := fun e2 => by have := congrArg List.length e2;rw [List.length_take,List.length_nil] at this;omega
      have := bestL_ne (f := f) this
      exact this (List.eq_nil_of_length_eq_zero (by omega))
    subst hm0
    have hnx : bestL f (l.take (k + 1)) = [x] := by rw [htk,hk0,List.nil_append];exact best_one f x
    have Hnx := Lib.hid hnx;have Hne := Lib.hid hne1
    clear hnx hne1 htk hk0 hm hO hxe hml
    obtain ⟨W1,hW1⟩ : ∃ W1,W1 = wr := ⟨_,rfl⟩
    have hb1 : Below w.heap.size w W1 := by rw [hW1];exact hb
    have hzW := hb1.size
    clear hb hz
    go_wp2
    rw [← hW1]
    clear hW1
    refine qa3 (by kernel_rfl) (by kernel_rfl) ?_
    repeat (go_big_quiet_step ((fail)))
    refine wpQuiet_nil ?_
    intro w2 hw'
    have hb12 : Below W1.heap.size W1 w2 := by obtain ⟨p,rfl⟩ := hw';exact qa4 W1 p
    clear hw' 
    have hb2 := hb1.trans (hb12.mono hzW)
    have hz2 := hb2.size
    go_wp2
    exact ⟨⟨k + 1,by omega,by go_num,Lib.hid (by rw [Hnx.out];exact Hne.out w2 hz2),hb2.alloc hz2 _⟩,by simp [intOf];omega⟩
   ·have hkne : l.take k ≠ [] := fun e => by rw [e] at hm; simp [bestL] at hm; omega
    obtain ⟨M,t1,t2,t3⟩ := bestL_top (f := f) hkne
    obtain ⟨W1,hW1⟩ : ∃ W1,W1 = wr := ⟨_,rfl⟩
    have hb1 : Below w.heap.size w W1 := by rw [hW1];exact hb
    have hzW := hb1.size
    have hO1 : Own w.heap.size 3 1 (dInt .i64) W1 (.slice ao m co) (bestL f (l.take k)) := by rw [hW1];exact hO.out
    obtain ⟨b0,off0,c0,rfl,-,hbw0,hc0,hx0⟩ := RSl.at1 (Own.rsl hO1 (by omega)) 0 (by omega)
    obtain ⟨rfl,-⟩ := hx0.open
    have hom : (bestL f (l.take k))[0]'(by omega) ∈ bestL f (l.take k) := List.getElem_mem _
    have hoM := t3 _ hom
    have hol : (bestL f (l.take k))[0]'(by omega) ∈ l := List.mem_of_mem_take (qak.1 hom).1
    obtain ⟨o,hoe⟩ : ∃ o,(bestL f (l.take k))[0]'(by omega) = o := ⟨_,rfl⟩
    rw [hoe] at hc0 hoM hol
    simp only [Nat.add_zero] at hc0
    obtain ⟨fx,hfx⟩ : ∃ fx,f x = fx := ⟨_,rfl⟩
    have hX := fun (W : World) (hW : Below w.heap.size w W) => HF.out W x hW hxm
    have hX0 := fun (W : World) (hW : Below w.heap.size w W) => HF.out W o hW hol
    rw [hfx] at hX
    rw [hoM] at hX0
    have h1 := fun p => hX (ext W1 p) (hb1.trans ((qa4 W1 p).mono hzW))
    have h2 := fun p => hX0 (ext W1 p) (hb1.trans ((qa4 W1 p).mono hzW))
    have e1 := fun p => qa7 (w := W1) hc0 p
    have hmq : ((m : Nat) == 0) = false := by simpa using (by omega : ¬ m = 0)
    have hmq2 : (((m : Nat) : Int) == 0) = false := by simp;omega
    have hm2 : (0 : Int) < (m : Int) := by omega
    have HX := Lib.hid h1;have HO0 := Lib.hid h2;have HXW := Lib.hid hX;have HOW := Lib.hid hX0
    have HO1 := Lib.hid hO1;have Hne := Lib.hid hne1;have Hm := Lib.hid hm
    have hc0l := qag hc0
    rcases Int.lt_trichotomy M fx with hc1 | hc1 | hc1
    ·have Hnx := Lib.hid (show bestL f (l.take (k + 1)) = [x] by rw [htk]; exact bestL_up t2 (.inl (by rw [hfx]; exact hc1)))
     have hd : decide (fx > M) = true := decide_eq_true hc1
     clear h1 h2 hX hX0 hO1 hne1 hm t1 t2 t3 hom hoM hol hoe hfx htk hkne hO hb hz hx0 hxe
     go_wp2
     rw [← hW1]
     clear hW1
     refine qa3 (by kernel_rfl) (by kernel_rfl) ?_
     repeat (go_big_quiet_step ((first | (go_at_fn g;have hh := HX.out;exact qab (v := .int .i64 fx) (hh _)) | (go_at_fn g;have hh := HO0.out;exact qab (v := .int .i64 M) (hh _)))))
     refine wpQuiet_nil ?_
     intro w2 hw'
     have hb12 : Below W1.heap.size W1 w2 := by obtain ⟨p,rfl⟩ := hw';exact qa4 W1 p
     clear hw' e1
     have hb2 := hb1.trans (hb12.mono hzW)
     have hz2 := hb2.size
     go_wp2
     exact ⟨⟨k + 1,by omega,by go_num,Lib.hid (by rw [Hnx.out];exact Hne.out w2 hz2),hb2.alloc hz2 _⟩,by simp [intOf];omega⟩
    ·have Hnx := Lib.hid (show bestL f (l.take (k + 1)) = bestL f (l.take k) ++ [x] by rw [htk]; exact bestL_same t1 t2 (by rw [hfx, hc1]))
     subst hc1
     have hd : decide (M > M) = false := by simp
     have hd2 : (M == M) = true := by simp
     clear h1 h2 hX hX0 hO1 hne1 hm t1 t2 t3 hom hoM hol hoe hfx htk hkne hO hb hz hx0 hxe
     go_wp2
     rw [← hW1]
     clear hW1
     refine qa3 (by kernel_rfl) (by kernel_rfl) ?_
     repeat (go_big_quiet_step ((first | (go_at_fn g;have hh := HX.out;exact qab (v := .int .i64 M) (hh _)) | (go_at_fn g;have hh := HO0.out;exact qab (v := .int .i64 M) (hh _)))))
     refine wpQuiet_nil ?_
     intro w2 hw'
     have hb12 : Below W1.heap.size W1 w2 := by obtain ⟨p,rfl⟩ := hw';exact qa4 W1 p
     clear hw' e1
     have hb2 := hb1.trans (hb12.mono hzW)
     have hz2 := hb2.size
     have hc2 := (hb12.cell (p := ⟨_,_,none⟩) hc0l).trans hc0
     have e2 := fun p => qa7 (w := w2) hc2 p
     have h1 := fun p => HXW.out (ext w2 p) (hb2.trans ((qa4 w2 p).mono hz2))
     have h2 := fun p => HOW.out (ext w2 p) (hb2.trans ((qa4 w2 p).mono hz2))
     have HX := Lib.hid h1;have HO0 := Lib.hid h2
     have HO2 := Lib.hid (Own.below (S := fun _ => False) (dInt.stable _ _) HO1.out hb12)
     clear h1 h2
     go_wp2
     refine qa3 (by kernel_rfl) (by kernel_rfl) ?_
     repeat (go_big_quiet_step ((first | (go_at_fn g;have hh := HX.out;exact qab (v := .int .i64 M) (hh _)) | (go_at_fn g;have hh := HO0.out;exact qab (v := .int .i64 M) (hh _)))))
     refine wpQuiet_nil ?_
     intro w3 hw'
     have hb23 : Below w2.heap.size w2 w3 := by obtain ⟨p,rfl⟩ := hw';exact qa4 w2 p
     clear hw' e2
     have hb3 := hb2.trans (hb23.mono hz2)
     have hz3 := hb3.size
     have HO3 := Lib.hid (Own.below (S := fun _ => False) (dInt.stable _ _) HO2.out hb23)
     go_wp2_with (at_builtin;go_must (refine wpList_appI w3 Tryz.infoInt rfl rfl Tryz.underlying25 w.heap.size HO3.out rfl rfl hwfx (by rw [Hm.out];exact hml) hz3 ?_);intro a5 n5 c5 w5 ho5 hb5;have Ho5 := Lib.hid ho5;have Hb5 := Lib.hid (hb5 _ _ (Nat.le_refl _) hb3);clear ho5 hb5)
     exact ⟨⟨k + 1,by omega,by go_num,Lib.hid (by rw [Hnx.out];exact Ho5.out),Hb5.out⟩,by simp [intOf];omega⟩
    ·have Hnx := Lib.hid (show bestL f (l.take (k + 1)) = bestL f (l.take k) by rw [htk]; exact bestL_down t1 t2 (by rw [hfx]; exact hc1))
     have hd : decide (fx > M) = false := decide_eq_false (by omega)
     have hd2 : (fx == M) = false := beq_eq_false_iff_ne.2 (by omega)
     clear h1 h2 hX hX0 hO1 hne1 hm t1 t2 t3 hom hoM hol hoe hfx htk hkne hO hb hz hx0 hxe
     go_wp2
     rw [← hW1]
     clear hW1
     refine qa3 (by kernel_rfl) (by kernel_rfl) ?_
     repeat (go_big_quiet_step ((first | (go_at_fn g;have hh := HX.out;exact qab (v := .int .i64 fx) (hh _)) | (go_at_fn g;have hh := HO0.out;exact qab (v := .int .i64 M) (hh _)))))
     refine wpQuiet_nil ?_
     intro w2 hw'
     have hb12 : Below W1.heap.size W1 w2 := by obtain ⟨p,rfl⟩ := hw';exact qa4 W1 p
     clear hw' e1
     have hb2 := hb1.trans (hb12.mono hzW)
     have hz2 := hb2.size
     have hc2 := (hb12.cell (p := ⟨_,_,none⟩) hc0l).trans hc0
     have e2 := fun p => qa7 (w := w2) hc2 p
     have h1 := fun p => HXW.out (ext w2 p) (hb2.trans ((qa4 w2 p).mono hz2))
     have h2 := fun p => HOW.out (ext w2 p) (hb2.trans ((qa4 w2 p).mono hz2))
     have HX := Lib.hid h1;have HO0 := Lib.hid h2
     have HO2 := Lib.hid (Own.below (S := fun _ => False) (dInt.stable _ _) HO1.out hb12)
     clear h1 h2
     go_wp2
     refine qa3 (by kernel_rfl) (by kernel_rfl) ?_
     repeat (go_big_quiet_step ((first | (go_at_fn g;have hh := HX.out;exact qab (v := .int .i64 fx) (hh _)) | (go_at_fn g;have hh := HO0.out;exact qab (v := .int .i64 M) (hh _)))))
     refine wpQuiet_nil ?_
     intro w3 hw'
     have hb23 : Below w2.heap.size w2 w3 := by obtain ⟨p,rfl⟩ := hw';exact qa4 w2 p
     clear hw' e2
     have hb3 := hb2.trans (hb23.mono hz2)
     have HO3 := Lib.hid (Own.below (S := fun _ => False) (dInt.stable _ _) HO2.out hb23)
     go_wp2
     exact ⟨⟨k + 1,by omega,by go_num,Lib.hid (by rw [Hnx.out];exact HO3.out),hb3⟩,by simp [intOf];omega⟩
  ·obtain rfl : k = l.length := by omega
   have hO2 := hO.out
   rw [List.take_length] at hO2
   have HO2 := Lib.hid hO2
   clear hO2 hO hm
   go_wp2
   go_ret
   exact ⟨_,rfl,HO2.out,hb⟩
theorem choLeast1M (bB g : Nat) (r : Value) (x f : Int) (w : World) (hB : w.heap[bB]? = some (.cells #[.func (.func g) #[r] #[]] 145 (0,0))) (eg : ∀ args w,(callFunc g args).run Tryz.prog w = .ok (.enter g args) w)
  (hf : Calls Tryz.prog g #[r,.int .i64 x] w fun e w' => e = .returned (.int .i64 f) ∧ Below w.heap.size w w') (h0 : -4000000000000000000 ≤ f) (h1 : f ≤ 4000000000000000000) :
  Calls Tryz.prog 186 (#[.int .i64 x] ++ #[.pointer (some ⟨bB,0,none⟩)]) w fun e w' => e = .returned (.int .i64 (-f)) ∧ Below w.heap.size w w' := by
 have c0 : w.cell? ⟨bB,0,none⟩ = some (.func (.func g) #[r] #[]) := (qa6 (Below.refl _ w) (qa0 hB) hB).2.1 0
 have wn : IntKind.i64.wrap (-f) = -f := by rw [IntKind.wrap_i64];omega
 have HF := Lib.hid hf
 clear hf hB
 go_enter Tryz.func186,Tryz.ntmps186
 go_wp2_with (go_at_fn g;refine HF.out.mono ?_;rintro e w1 ⟨rfl,hb1⟩)
 go_ret
 exact ⟨rfl,hb1⟩
set_option maxHeartbeats 400000 in
theorem choLeastM (S : Nat → Prop) (v : Value) (l : List Int) (w : World) (h : RInts S w v l) (hl : l.length ≤ 1000000) (g : Nat) (r : Value) (eg : ∀ args w,(callFunc g args).run Tryz.prog w = .ok (.enter g args) w) (f : Int → Int) (hfb : ∀ x ∈ l,-4000000000000000000 ≤ f x ∧ f x ≤ 4000000000000000000)
  (hf : ∀ W x,Below w.heap.size w W → x ∈ l → Calls Tryz.prog g #[r,.int .i64 x] W fun e w' => e = .returned (.int .i64 (f x)) ∧ Below W.heap.size W w') :
  Calls Tryz.prog 130 #[v,.func (.func g) #[r] #[]] w (GivesI (bestL (fun y => - f y) l) w) := by
 obtain ⟨a,cap,rfl,-,-⟩ := RSl.shape h
 obtain ⟨W1,hW1⟩ : ∃ W,W = w.alloc (.cells #[.func (.func g) #[r] #[]] 145) := ⟨_,rfl⟩
 have hb0 : Below w.heap.size w W1 := by rw [hW1];exact qa1 _ _
 have hB : W1.heap[w.heap.size]? = some (.cells #[.func (.func g) #[r] #[]] 145 (0,0)) := by rw [hW1];exact qa8 _ _
 have hBe := choBest S _ l W1 (h.same (.of_below hb0)) hl 186 #[.pointer (some ⟨w.heap.size,0,none⟩)] (enters_of Tryz.func186 (by kernel_rfl) rfl) (fun y => - f y)
  (fun W x hW hx => choLeast1M w.heap.size g r x (f x) W ((hW.block _ (qa0 hB)).trans hB) eg (hf W x (bt hb0 hW) hx) (hfb x hx).1 (hfb x hx).2)
 obtain ⟨n,hn⟩ : ∃ n,l.length = n := ⟨_,rfl⟩
 rw [hn] at hBe ⊢
 rw [hW1] at hBe
 have HB := Lib.hid hBe;have HW1 := Lib.hid hW1;have Hb0 := Lib.hid hb0
 clear hBe hn h hB hb0 hfb hf hW1
 go_enter Tryz.func130,Tryz.ntmps130
 go_wp2_with (go_at_call 125;refine HB.out.mono ?_;rintro e w1 ⟨v1,rfl,ho1,hb1⟩;rw [← HW1.out] at ho1 hb1;have Ho1 := Lib.hid ho1;have Hb1 := Lib.hid hb1;clear ho1 hb1)
 go_ret
 exact ⟨_,rfl,Own.rebase Ho1.out Hb0.out.size,bt Hb0.out Hb1.out⟩
end

section
open Go Go.RowKit Go.Shelf Limb

theorem upU_nat (a b : Nat) : upU (a : Int) (b : Int) = ((a * b / 1000000000 : Nat) : Int) + if a * b % 1000000000 = 0 then 0 else 1 := by
 unfold upU
 rw [← Int.natCast_mul]
 obtain ⟨P,hP⟩ : ∃ P,a * b = P := ⟨_,rfl⟩
 rw [hP]
 split <;> omega
set_option maxRecDepth 100000 in
set_option maxHeartbeats 1000000 in
theorem quoUp (a b : Nat) (w : World) (ha : a ≤ 1000000000) (hb : b ≤ 1000000000) :
  Calls Tryz.prog 161 #[.int .i64 a,.int .i64 b] w fun e w' => e = .returned (.tuple #[.int .i64 (upU a b),.int .i64 0]) ∧ Below w.heap.size w w' := by
 have hwa : (Lit.int .i64 (a : Int)).wf = true := WalkArith.wf_i64 (by omega)
 have hwb : (Lit.int .i64 (b : Int)).wf = true := WalkArith.wf_i64 (by omega)
 have hlit : RInts Any (w.alloc (.cells #[.int .i64 (a : Int),.int .i64 (b : Int)] 3)) (.slice (some ⟨w.heap.size,0,none⟩) 2 2) [(a : Int),(b : Int)] := qb5 (xs := [(a : Int),(b : Int)]) (qa8 w _) (by intro x hx;simp at hx;rcases hx with rfl | rfl;exact hwa;exact hwb) (by simp)
 have hA := quoAll Any _ [(a : Int),(b : Int)] _ hlit (by simp)
 have hall : allB [(a : Int),(b : Int)] = true := by simp [allB,inB2];omega
 rw [hall] at hA
 have hP := fun W => quoProduct a b 1000000000 W (by omega) (by omega) (by omega) (by omega)
 unfold ProdR at hP
 have hq : a * b / 1000000000 ≤ 1000000000 := by
  have : a * b ≤ 1000000000 * 1000000000 := Nat.mul_le_mul ha hb
  omega
 rw [upU_nat]
 have hd : decide (a * b / 1000000000 ≤ 1000000000000000) = true := decide_eq_true (by omega)
 rw [hd] at hP
 obtain ⟨q,hqq⟩ : ∃ q : Int,((a * b / 1000000000 : Nat) : Int) = q := ⟨_,rfl⟩
 obtain ⟨r,hrr⟩ : ∃ r : Int,((a * b % 1000000000 : Nat) : Int) = r := ⟨_,rfl⟩
 have hP2 : ∀ W,Calls Tryz.prog 141 #[.int .i64 a,.int .i64 b,.int .i64 1000000000] W fun e w' => e = .returned (.tuple #[.int .i64 q,.int .i64 r,.bool true]) ∧ Below W.heap.size W w' := fun W => (hP W).mono fun e w' ⟨n,m,he,h5,_,_,hb⟩ => by
  obtain ⟨rfl,rfl⟩ := h5 (by omega)
  exact ⟨by rw [he,hqq,hrr],hb⟩
 have h0 : (a * b % 1000000000 = 0) ↔ r = 0 := by omega
 have hq0 : 0 ≤ q ∧ q ≤ 1000000000 := by omega
 have hr0 : 0 ≤ r := by omega
 rw [hqq]
 have HA := Lib.hid hA;have HP := Lib.hid hP2
 clear hA hP hP2 hd hall hlit hwa hwb hqq hrr hq
 by_cases hR : r = 0
 ·rw [if_pos (h0.2 hR)]
  have hle : ¬ q > 1000000000000000 := by omega
  rw [Int.add_zero]
  subst hR
  clear h0 ha hb
  go_enter Tryz.func161,Tryz.ntmps161
  go_wp2_with (first
   | (go_at_call 140;refine HA.out.mono ?_;rintro e w1 ⟨rfl,rfl⟩)
   | (go_at_call 141;refine (HP.out _).mono ?_;rintro e w2 ⟨rfl,hb2⟩))
  go_ret2
  exact ⟨rfl,bt (qa1 w _) hb2⟩
 ·rw [if_neg fun h => hR (h0.1 h)]
  have hg : r > 0 := by omega
  have hle : ¬ q + 1 > 1000000000000000 := by omega
  have hw1 : IntKind.i64.wrap (q + 1) = q + 1 := by rw [IntKind.wrap_i64];omega
  clear h0 hR ha hb
  go_enter Tryz.func161,Tryz.ntmps161
  go_wp2_with (first
   | (go_at_call 140;refine HA.out.mono ?_;rintro e w1 ⟨rfl,rfl⟩)
   | (go_at_call 141;refine (HP.out _).mono ?_;rintro e w2 ⟨rfl,hb2⟩))
  go_ret2
  exact ⟨rfl,bt (qa1 w _) hb2⟩
theorem meeHas (k : MCn) (v : MV) (s : MP) (x : Int) (w : World) (h : MSt k w v s) (h0 : 0 ≤ x) (h1 : x < s.had.length) :
  Calls Tryz.prog 152 #[.pointer (some ⟨k.gc,0,none⟩),.int .i64 x] w fun e w' => e = .returned (.int .i64 (gI s.had x)) ∧ w' = w := by
 have hxt : x.toNat < s.had.length := by omega
 obtain ⟨g,cap,c,hv,-,hgw,-,hc,hd⟩ := Own.at1 h.oh (k := x.toNat) hxt
 obtain ⟨rfl,-⟩ := hd.open
 have hgi : gI s.had x = s.had[x.toNat] := by rw [gI,List.getD_eq_getElem?_getD,List.getElem?_eq_getElem hxt];rfl
 have c9 : w.cell? ⟨k.gc,9,none⟩ = some v.vh := h.cell.1 9
 have hlg := qa0 h.bc
 rw [hv] at c9
 obtain ⟨r,hr⟩ : ∃ r,s.had[x.toNat] = r := ⟨_,rfl⟩
 rw [hr] at hc hgi
 rw [hgi]
 obtain ⟨n,rfl⟩ : ∃ n : Nat,x = (n : Int) := ⟨x.toNat,by omega⟩
 rw [Int.toNat_natCast] at hc hxt
 obtain ⟨L,hL⟩ : ∃ L,s.had.length = L := ⟨_,rfl⟩
 rw [hL] at hxt c9
 obtain ⟨gc,hgc⟩ : ∃ g,k.gc = g := ⟨_,rfl⟩
 rw [hgc] at c9 hlg ⊢
 clear hr hgi hd hv h hL h1 hgc
 go_enter Tryz.func152,Tryz.ntmps152
 go_wp2
 go_ret
 exact ⟨rfl,rfl⟩
theorem meeLeave1 (x y : Int) (w : World) (b8 : Nat) (hB : w.cell? ⟨b8,0,none⟩ = some (.int .i64 x)) :
  Calls Tryz.prog 199 (#[.int .i64 y] ++ #[.pointer (some ⟨b8,0,none⟩)]) w fun e w' => e = .returned (.bool (y == x)) ∧ w' = w := by
 by_cases e : y = x
 ·have he : (y == x) = true := by simpa using e
  rw [he]
  have hd : (y == x) = true := he
  clear e he
  go_enter Tryz.func199,Tryz.ntmps199
  go_wp2
  go_ret
  exact ⟨rfl,rfl⟩
 ·have he : (y == x) = false := by simpa using e
  rw [he]
  have hd : (y == x) = false := he
  clear e he
  go_enter Tryz.func199,Tryz.ntmps199
  go_wp2
  go_ret
  exact ⟨rfl,rfl⟩
set_option maxRecDepth 100000 in
set_option maxHeartbeats 1000000 in
theorem meeLeave (k : MCn) (v : MV) (s : MP) (x : Int) (w : World) (h : MSt k w v s) (hne : s.inn ≠ []) (hl : s.inn.length ≤ 1000000) :
  Calls Tryz.prog 154 #[.pointer (some ⟨k.gc,0,none⟩),.int .i64 x] w fun e w' => e = .returned (.tuple #[]) ∧ (∃ v',MSt k w' v' { s with inn := s.inn.filter fun y => !(y == x) }) ∧ Below k.lo w w' := by
 obtain ⟨W1,hW1⟩ : ∃ W,W = w.alloc (.cells #[.int .i64 x] 3) := ⟨_,rfl⟩
 have hb1 : Below w.heap.size w W1 := by rw [hW1];exact qa1 _ _
 have hB : W1.heap[w.heap.size]? = some (.cells #[.int .i64 x] 3 (0,0)) := by rw [hW1];exact qa8 _ _
 have h1 := h.below hb1
 have c7 : W1.cell? ⟨k.gc,7,none⟩ = some v.vL := h1.cell.1 7
 have hlg := qa0 h1.bc
 have hlo : k.lo ≤ W1.heap.size := by have := h1.big;have := h.l1;have := h.l2;omega
 obtain ⟨aL,cL,hvL⟩ := Own.shape h1.oL
 have hq : some w.heap.size ≠ v.vL.ownBlock := fun e => by have := (Own.lt h.oL _ e.symm).2;omega
 have hD := slDelete2 k.lo v.vL s.inn W1 h1.oL hlo hl hne (fun y => y == x) 199 #[.pointer (some ⟨w.heap.size,0,none⟩)] (enters_of Tryz.func199 (by kernel_rfl) rfl)
  (fun W y hW _ => meeLeave1 x y W w.heap.size (by
   have h1 := hW _ (qa0 hB) hq
   rw [hB] at h1
   exact (qa6 (Below.refl _ W) (qa0 h1) h1).2.1 0)) (fun _ => rfl)
 rw [hvL] at c7 hD
 have hY : ∀ W u,Own k.lo 3 1 (dInt .i64) W u (s.inn.filter fun y => !(y == x)) → W1.grownBy W v.vL.ownBlock → u.ownBlock = v.vL.ownBlock → (∃ v',MSt k (W.setCell ⟨k.gc,7,none⟩ u) v' { s with inn := s.inn.filter fun y => !(y == x) }) ∧ Below k.lo w (W.setCell ⟨k.gc,7,none⟩ u) ∧ k.gc < W.heap.size ∧ W.frozen? ⟨k.gc,7,none⟩ = false ∧ W.cell? ⟨k.gc,7,none⟩ = some v.vL := fun W u hO hg hob => by
  obtain ⟨m1,m2⟩ := h1.left hO hg hob
  have hgc := (Keep.of_grown hg).box h1.bc (fun hm => by
   have := h1.ap 1 6 k.gc rfl (List.mem_singleton.1 hm).symm
   omega)
  exact ⟨⟨_,m1⟩,(hb1.mono (by have := h.big;have := h.l1;have := h.l2;omega)).trans (h1.keepL m2),qa0 hgc,(qa6 (Below.refl _ W) (qa0 hgc) hgc).2.2 7,(qa6 (Below.refl _ W) (qa0 hgc) hgc).2.1 7⟩
 rw [hvL] at hY
 obtain ⟨n,hn⟩ : ∃ n,s.inn.length = n := ⟨_,rfl⟩
 rw [hn] at c7 hD hY
 rw [hW1] at hD hY c7 hlg
 have HD := Lib.hid hD;have HY := Lib.hid hY
 obtain ⟨gc,hgc⟩ : ∃ g,k.gc = g := ⟨_,rfl⟩
 rw [hgc] at c7 hlg ⊢
 have Hgc := Lib.hid hgc
 clear hD hY hW1 hb1 hB h1 h hne hl hlo hvL hq hn hgc
 go_enter Tryz.func154,Tryz.ntmps154
 go_wp2_with (go_at_call 198;refine HD.out.mono ?_;rintro e w1 ⟨u,rfl,hi,hg,hob⟩;obtain ⟨a3,n3,c3,rfl⟩ := Own.slice hi.1;obtain ⟨k1,k2,k3,k4,k5⟩ := HY.out _ _ hi.1 hg hob;rw [Hgc.out] at k1 k2 k3 k4 k5;have K1 := Lib.hid k1;have K2 := Lib.hid k2;clear hi hg hob k1 k2)
 go_returns
 exact ⟨rfl,K1.out,K2.out⟩
set_option maxRecDepth 100000 in
set_option maxHeartbeats 4000000 in
set_option linter.unusedSimpArgs false in
theorem meeElect (k : MCn) (v : MV) (s : MP) (u : Value) (am : List Int) (T : Nat → Prop) (x : Nat) (w : World) (h : MSt k w v s) (hu : RInts T w u am) (hne : am ≠ []) (hin : ∀ y ∈ am,y ∈ k.lot) (hasc : am.Pairwise fun a b => a ≤ b) (hx : firstL k.lot am = (x : Int)) (hxi : (x : Int) ∈ s.inn) (hx3 : x ≤ 1000)
  (hll : k.lot.length ≤ 1000000) (ham : am.length ≤ 1000000) (hinn : s.inn.length ≤ 1000000) (hel : s.el.length ≤ 1000000) (hre : s.re.length ≤ 1000000) (hti : s.ties.length ≤ 1000000) :
  Calls Tryz.prog 151 #[.pointer (some ⟨k.gc,0,none⟩),u] w fun e w' => e = .returned (.tuple #[]) ∧ (∃ v',MSt k w' v' (s.elect am x)) ∧ Below k.lo w w' := by
 obtain ⟨ve,vrd,vt,vk,vL,vh,vr,vo⟩ := v
 have hwx : (Lit.int .i64 (x : Int)).wf = true := WalkArith.wf_i64 (by omega)
 have hF := choFirstT (k.gc + 1) (k.R w ⟨ve,vrd,vt,vk,vL,vh,vr,vo⟩) T (k.T w ⟨ve,vrd,vt,vk,vL,vh,vr,vo⟩) u k.lot am s.ties w k.gC ve vrd vt k.vl h.bC (by have := h.l2;omega) h.ot (fun b hb => ⟨hb.1,hb.2.1,fun e => hb.2.2 4 e.symm⟩) h.lot hu hne hin (by rw [hx];exact hwx) h.big hti ham hll
 rw [sortI_self hasc,hx] at hF
 obtain ⟨au,nu,cu,rfl⟩ := RSl.slice hu
 have c0 : w.cell? ⟨k.gc,0,none⟩ = some (.pointer (some ⟨k.gC,0,none⟩)) := h.cell.1 0
 have hlg := qa0 h.bc
 obtain ⟨a,cap,hve⟩ : ∃ a cap,ve = .slice a s.el.length cap := Own.shape h.oe
 obtain ⟨ar,cr,hvr⟩ : ∃ a cap,vr = .slice a s.re.length cap := Own.shape h.or
 obtain ⟨n,hn⟩ : ∃ n,s.el.length = n := ⟨_,rfl⟩
 obtain ⟨nr,hnr⟩ : ∃ n,s.re.length = n := ⟨_,rfl⟩
 rw [hn] at hve
 rw [hnr] at hvr
 subst hve hvr
 have hine : s.inn ≠ [] := List.ne_nil_of_mem hxi
 have HF := Lib.hid hF;have HH := Lib.hid h;have Hel := Lib.hid hel;have Hre := Lib.hid hre;have Hinn := Lib.hid hinn;have Hine := Lib.hid hine;have Hn := Lib.hid hn;have Hnr := Lib.hid hnr
 clear hF h hu hne hin hasc hx hxi hll ham hinn hel hre hti hine hn hnr
 go_enter Tryz.func151,Tryz.ntmps151
 go_upto_region 1 with (go_at_call 126;refine HF.out.mono ?_;rintro e w1 ⟨rfl,htl⟩;obtain ⟨vt1,h1,hk1⟩ := HH.out.tell htl;have H1 := Lib.hid h1;have K1 := Lib.hid (HH.out.keepL hk1);clear htl h1 hk1)
 have hS : ∀ W v' s',MSt k W v' s' → v'.ve = .slice a n cap → W.cell? ⟨k.gc,0,none⟩ = some (.pointer (some ⟨k.gC,0,none⟩)) ∧ W.cell? ⟨k.gC,0,none⟩ = some (.slice a n cap) := fun W v' s' hW e => ⟨hW.cell.1 0,by rw [← e];exact hW.cellC.1 0⟩
 have HS := Lib.hid hS
 have hD := H1.out.below (Below.drew (Below.refl _ w1))
 have hA := hD.below (qa1 w1.drew (.cells #[.int .i64 x] 3))
 have HD := Lib.hid hD;have HA := Lib.hid hA
 clear hS hD hA c0
 refine qat (S := (fun W : World => W.cell? ⟨k.gc,0,none⟩ = some (.pointer (some ⟨k.gC,0,none⟩)) ∧ W.cell? ⟨k.gC,0,none⟩ = some (.slice a n cap))) (L := [18]) (by kernel_rfl) (HS.out _ _ _ HD.out rfl) (fun hHeld => ?_)
 refine tk 0 ?_ rfl hHeld ?_ ?_;rotate_left
 ·intro w hSw;(try dsimp only at hSw);go_simp;try (with_reducible rfl)
 (try simp only [la,lb,lc,ld,lf,lg,lh])
 refine tk 1 ?_ rfl hHeld ?_ ?_;rotate_left
 ·intro w hSw;(try dsimp only at hSw);go_simp;try (with_reducible rfl)
 (try simp only [la,lb,lc,ld,lf,lg,lh])
 refine tk 2 ?_ rfl hHeld ?_ ?_;rotate_left
 ·intro w hSw;(try dsimp only at hSw);go_simp;try (with_reducible rfl)
 (try simp only [la,lb,lc,ld,lf,lg,lh])
 refine tk 3 ?_ rfl hHeld ?_ ?_;rotate_left
 ·intro w hSw;(try dsimp only at hSw);go_simp;try (with_reducible rfl)
 (try simp only [la,lb,lc,ld,lf,lg,lh])
 refine tk 4 ?_ rfl hHeld ?_ ?_;rotate_left
 ·intro w hSw;(try dsimp only at hSw);go_simp;try (with_reducible rfl)
 (try simp only [la,lb,lc,ld,lf,lg,lh])
 refine tk 5 ?_ rfl hHeld ?_ ?_;rotate_left
 ·intro w hSw;(try dsimp only at hSw);go_simp;try (with_reducible rfl)
 (try simp only [la,lb,lc,ld,lf,lg,lh])
 refine tk 6 ?_ rfl hHeld ?_ ?_;rotate_left
 ·intro w hSw;(try dsimp only at hSw);go_simp;try (with_reducible rfl)
 (try simp only [la,lb,lc,ld,lf,lg,lh])
 refine tk 7 ?_ rfl hHeld ?_ ?_;rotate_left
 ·intro w hSw;(try dsimp only at hSw);go_simp;try (with_reducible rfl)
 (try simp only [la,lb,lc,ld,lf,lg,lh])
 refine tk 8 ?_ rfl hHeld ?_ ?_;rotate_left
 ·intro w hSw;(try dsimp only at hSw);go_simp;try (with_reducible rfl)
 (try simp only [la,lb,lc,ld,lf,lg,lh])
 refine tk 9 ?_ rfl hHeld ?_ ?_;rotate_left
 ·intro w hSw;(try dsimp only at hSw);go_simp;try (with_reducible rfl)
 (try simp only [la,lb,lc,ld,lf,lg,lh])
 refine tk 10 ?_ rfl hHeld ?_ ?_;rotate_left
 ·intro w hSw;(try dsimp only at hSw);go_simp;try (with_reducible rfl)
 (try simp only [la,lb,lc,ld,lf,lg,lh])
 refine tk 11 ?_ rfl hHeld ?_ ?_;rotate_left
 ·intro w hSw;(try dsimp only at hSw);go_simp;try (with_reducible rfl)
 (try simp only [la,lb,lc,ld,lf,lg,lh])
 refine tk 12 ?_ rfl hHeld ?_ ?_;rotate_left
 ·intro w hSw;(try dsimp only at hSw);go_simp;try (with_reducible rfl)
 (try simp only [la,lb,lc,ld,lf,lg,lh])
 refine qa9 (i := 13) (by kernel_rfl) rfl (fun K hK => ?_)
 go_simp
 refine hK.out _ _ (HS.out _ _ _ HA.out rfl) (fun hHeld => ?_)
 clear hK K
 (try simp only [la,lb,lc,ld,lf,lg,lh])
 refine qa9 (i := 14) (by kernel_rfl) rfl (fun K hK => ?_)
 (refine wp_appF1 _ Tryz.infoInt rfl Tryz.underlying25 ⟨rfl,by omega,by omega,by omega⟩ (dInt.one .i64) (dInt.stable (fun _ => False) .i64) (k.gc + 1) HA.out.oe (fun _ h => h.elim) rfl (qa8 w1.drew (.cells #[.int .i64 x] 3)) (cs := [.int .i64 x]) rfl ⟨rfl,hwx⟩ rfl (by dsimp only;rw [Hn.out];exact Hn.out ▸ Hel.out) HA.out.big ?_;intro a9 n9 c9 w9 ho9 hg9 hm9;have Gr := Lib.hid (HA.out.grown 2 hg9 (by decide) (by decide));have Ho9 := Lib.hid ho9;have Hg9 := Lib.hid hg9;have Hm9 := Lib.hid hm9;clear ho9 hg9 hm9)
 refine hK.out _ _ (And.intro (Gr.out.2.2.2.1 0) (Gr.out.2.1 0)) (fun hHeld => ?_)
 clear hK K
 (try simp only [la,lb,lc,ld,lf,lg,lh])
 refine qa9 (i := 15) (by kernel_rfl) rfl (fun K hK => ?_)
 go_simp
 refine hK.out _ _ (And.intro (Gr.out.2.2.2.1 0) (Gr.out.2.1 0)) (fun hHeld => ?_)
 clear hK K
 (try simp only [la,lb,lc,ld,lf,lg,lh])
 refine qa9 (i := 16) (by kernel_rfl) rfl (fun K hK => ?_)
 go_simp
 refine hK.out _ _ (And.intro (Gr.out.2.2.2.1 0) (Gr.out.2.1 0)) (fun hHeld => ?_)
 clear hK K
 (try simp only [la,lb,lc,ld,lf,lg,lh])
 refine tk 17 ?_ rfl hHeld ?_ ?_;rotate_left
 ·intro w hSw;(try dsimp only at hSw);go_simp;try (with_reducible rfl)
 (try simp only [la,lb,lc,ld,lf,lg,lh])
 have hfr := Gr.out.2.2.1 0
 refine wpAnyL_last (i := 18) (by kernel_rfl) rfl (by kernel_rfl) (fun K hK => ?_)
 go_simp
 refine hK.out _ _ ?_
 clear hK K
 (try simp only [la,lb,lc,ld,lf,lg,lh])
 refine qam (by kernel_rfl) ?_ _
 obtain ⟨m2,k2⟩ := HA.out.elected Ho9.out Hg9.out Hm9.out
 obtain ⟨W3,hW3⟩ : ∃ W,W = w9.setCell ⟨k.gC,0,none⟩ (.slice a9 n9 c9) := ⟨_,rfl⟩
 rw [← hW3] at m2 k2 ⊢
 have hbl : Below k.lo w W3 := K1.out.trans (((bt (Below.drew (Below.refl _ w1)) (qa1 w1.drew (.cells #[.int .i64 x] 3))).mono (by have := H1.out.big;have := H1.out.l1;have := H1.out.l2;omega)).trans (HA.out.keepL k2))
 have c16 : W3.cell? ⟨k.gc,16,none⟩ = some (.slice ar nr cr) := m2.cell.1 16
 have hl3 := qa0 m2.bc
 have H3 := Lib.hid m2;have Hbl := Lib.hid hbl
 clear m2 k2 hW3 hbl hfr Gr Ho9 Hg9 Hm9 HA HD HS
 go_upto_region 3 with (at_builtin;go_must (refine wpList_appJ W3 Tryz.infoInt rfl rfl Tryz.underlying25 (k.gc + 1) H3.out.or rfl rfl hwx (by dsimp only;exact Hre.out) H3.out.big ?_);intro a8 n8 c8 w8 ho8 hb8 hg8 hm8;have Gr := H3.out.grown 8 hg8 (by decide) (by decide);have f16 := Gr.2.2.2.2 16;have c16' := Gr.2.2.2.1 16;have hl8 := qa0 Gr.1.2;have Ho8 := Lib.hid ho8;have Hg8 := Lib.hid hg8;have Hm8 := Lib.hid hm8;clear Gr ho8 hb8 hg8 hm8)
 obtain ⟨m4,k4⟩ := H3.out.relected Ho8.out Hg8.out Hm8.out
 obtain ⟨W4,hW4⟩ : ∃ W,W = w8.setCell ⟨k.gc,16,none⟩ (.slice a8 n8 c8) := ⟨_,rfl⟩
 rw [← hW4] at m4 k4 ⊢
 have hL := meeLeave k _ _ (x : Int) W4 m4 Hine.out Hinn.out
 have hb4 := Hbl.out.trans (H3.out.keepL k4)
 have HL := Lib.hid hL;have Hb4 := Lib.hid hb4
 clear m4 k4 hW4 hL hb4 c16 c16' f16 hl8 Ho8 Hg8 Hm8
 go_wp2_with (go_at_call 154;refine HL.out.mono ?_;rintro e w5 ⟨rfl,k5,b5⟩;have K5 := Lib.hid k5;have B5 := Lib.hid b5;clear k5 b5)
 go_returns
 exact ⟨rfl,K5.out,Hb4.out.trans B5.out⟩
end

section
open Go Go.RowKit Go.Shelf Limb

set_option maxHeartbeats 1000000 in
theorem meeParts (I : Nat → World → Prop) (S T : Nat → Prop) (u v : Value) (marks K : List Int) (w : World) (f : Nat) (lb : Array Value) (eg : ∀ args w,(callFunc f args).run Tryz.prog w = .ok (.enter f args) w)
  (hml : marks.length ≤ 1000) (hr : ∀ x ∈ marks,0 ≤ x ∧ x < (K.length : Int)) (hK : KOk K) (h0 : I 0 w) (hb : ∀ j W W',I j W → Below W.heap.size W W' → I j W')
  (hu : ∀ j W,I j W → RInts S W u marks) (hv : ∀ j W,I j W → RInts T W v K)
  (hp : ∀ j (hj : j < marks.length) W,I j W → Calls Tryz.prog f (#[.int .i64 marks[j],.int .i64 (upU (restM K 1000000000 (marks.take j)) (gI K marks[j]))] ++ lb) W fun e w' => e = .returned (.tuple #[]) ∧ I (j + 1) w') :
  Calls Tryz.prog 94 #[u,v,.func (.func f) #[] lb] w fun e w' => e = .returned (.int .i64 (restM K 1000000000 marks)) ∧ I marks.length w' := by
 obtain ⟨a,cap,hua,-,-⟩ := RSl.shape (hu 0 w h0)
 obtain ⟨a2,cap2,hva,-,-⟩ := RSl.shape (hv 0 w h0)
 subst hua hva
 obtain ⟨n,hn⟩ : ∃ n,marks.length = n := ⟨_,rfl⟩
 obtain ⟨C,hC⟩ : ∃ n,K.length = n := ⟨_,rfl⟩
 rw [hn] at hml hu
 rw [hC] at hr hv
 rw [hn,hC]
 have HU := Lib.hid hu;have HV := Lib.hid hv;have HP := Lib.hid hp;have HB := Lib.hid hb;have Hr := Lib.hid hr;have HK := Lib.hid hK;have Hn := Lib.hid hn;have HC := Lib.hid hC;have H0 := Lib.hid h0
 clear hu hv hp hb hr hK hn hC h0
 go_enter Tryz.func94,Tryz.ntmps94
 go_wp2
 go_loopw [6,8,9,10,13] (fun r _ _ _ i wr => ∃ k : Nat,k ≤ n ∧ i = .int .i64 k ∧ Hid (r = .int .i64 (restM K 1000000000 (marks.take k))) ∧ Hid (I k wr)) (fun _ _ _ _ i _ => n - (intOf i).toNat)
 case atStart => exact ⟨0,Nat.zero_le _,rfl,Lib.hid rfl,H0⟩
 case round =>
  obtain ⟨k,hk,rfl,hre,hI⟩ := hrel
  have hrb := rest_bound HK.out (l := marks.take k) (r := 1000000000) (by omega)
  obtain ⟨R,hR⟩ : ∃ R : Nat,restM K 1000000000 (marks.take k) = (R : Int) := ⟨(restM K 1000000000 (marks.take k)).toNat,by omega⟩
  rw [hR] at hre hrb
  obtain rfl := hre.out
  by_cases hlt : k < n
  ·have hlr : k < marks.length := by rw [Hn.out]; exact hlt
   obtain ⟨b,off,c,rfl,-,hbw,hc,hx⟩ := RSl.at1 (HU.out k wr hI.out) k hlr
   obtain ⟨rfl,-⟩ := hx.open
   obtain ⟨x0,x1⟩ := Hr.out _ (List.getElem_mem hlr)
   have hP := HP.out k hlr
   have hst : restM K 1000000000 (marks.take (k + 1)) = R - upU R (gI K marks[k]) := by rw [List.take_succ_eq_append_getElem hlr,rest_snoc,hR]
   obtain ⟨xn,hxn⟩ : ∃ xn : Nat,marks[k] = (xn : Int) := ⟨marks[k].toNat,by omega⟩
   rw [hxn] at hP hc hst x1
   have hxC : xn < K.length := by rw [HC.out];omega
   obtain ⟨b2,off2,c2,rfl,-,hbw2,hc2,hx2⟩ := RSl.at1 (HV.out k wr hI.out) xn hxC
   obtain ⟨rfl,-⟩ := hx2.open
   have hkb := HK.out (xn : Int)
   have hgi : gI K (xn : Int) = K[xn] := gI_at hxC
   rw [hgi] at hP hst hkb
   obtain ⟨kn,hkn⟩ : ∃ kn : Nat,K[xn] = (kn : Int) := ⟨K[xn].toNat,by omega⟩
   rw [hkn] at hP hst hkb hc2
   rw [hR] at hP
   have hQ := fun W => quoUp R kn W (by omega) (by omega)
   have hub := up_bound (r := (R : Int)) (k := (kn : Int)) (by omega) (by omega)
   obtain ⟨U,hU⟩ : ∃ U,upU (R : Int) (kn : Int) = U := ⟨_,rfl⟩
   rw [hU] at hP hst hQ hub
   have hw1 : IntKind.i64.wrap ((R : Int) - U) = (R : Int) - U := by rw [IntKind.wrap_i64];omega
   have HQ := Lib.hid hQ;have HPk := Lib.hid hP;have Hst := Lib.hid hst
   clear hQ hP hst hU hkn hgi hxn hx hx2 hR hre hlr x0 hub hkb hrb
   go_wp2_with (first
    | (go_at_call 161;refine (HQ.out _).mono ?_;rintro e w1 ⟨rfl,hb1⟩;have I1 := Lib.hid (HB.out _ _ _ hI.out hb1);clear hb1)
    | (go_at_fn f;refine (HPk.out _ I1.out).mono ?_;rintro e w2 ⟨rfl,i2⟩;have I2 := Lib.hid i2;clear i2))
   exact ⟨⟨k + 1,by omega,by go_num,Lib.hid (by rw [Hst.out]),I2⟩,by simp [intOf];omega⟩
  ·obtain rfl : k = n := by omega
   have hfin : restM K 1000000000 marks = R := by rw [← hR,← Hn.out,List.take_length]
   have Hfin := Lib.hid hfin
   clear hfin hR hre hrb
   go_wp2
   go_ret
   exact ⟨qac Hfin.out.symm,hI.out⟩
def quoMI (votes lost seats : Int) : Int := if (0 ≤ votes ∧ votes ≤ 1000000) ∧ (0 ≤ lost ∧ lost ≤ votes * 1000000000) ∧ (1 ≤ seats ∧ seats ≤ 10) then 0 else 2
def quoMV (votes lost seats : Int) : Int := if quoMI votes lost seats = 0 then quoM votes lost seats else 0
set_option maxHeartbeats 1000000 in
theorem meeQuota (votes lost seats : Int) (w : World) :
  Calls Tryz.prog 35 #[.int .i64 votes,.int .i64 lost,.int .i64 seats] w fun e w' => e = .returned (.tuple #[.int .i64 (quoMV votes lost seats),.int .i64 (quoMI votes lost seats)]) ∧ w' = w := by
 unfold quoMV
 by_cases h1 : votes < 0
 ·have hi : quoMI votes lost seats = 2 := by rw [quoMI, if_neg (by omega)]
  rw [hi,if_neg (by omega)]
  have d1 : decide (votes < 0) = true := decide_eq_true h1
  clear hi
  go_enter Tryz.func35,Tryz.ntmps35
  go_wp2
  go_ret2
  exact ⟨rfl,rfl⟩
 ·have d1 : decide (votes < 0) = false := decide_eq_false h1
  by_cases h2 : votes > 1000000
  ·have hi : quoMI votes lost seats = 2 := by rw [quoMI, if_neg (by omega)]
   rw [hi,if_neg (by omega)]
   have d2 : decide (votes > 1000000) = true := decide_eq_true h2
   clear hi
   go_enter Tryz.func35,Tryz.ntmps35
   go_wp2
   go_ret2
   exact ⟨rfl,rfl⟩
  ·have d2 : decide (votes > 1000000) = false := decide_eq_false h2
   have hwm : IntKind.i64.wrap (votes * 1000000000) = votes * 1000000000 := by rw [IntKind.wrap_i64];omega
   by_cases h3 : lost < 0
   ·have hi : quoMI votes lost seats = 2 := by rw [quoMI, if_neg (by omega)]
    rw [hi,if_neg (by omega)]
    have d3 : decide (lost < 0) = true := decide_eq_true h3
    clear hi
    go_enter Tryz.func35,Tryz.ntmps35
    go_wp2
    go_ret2
    exact ⟨rfl,rfl⟩
   ·have d3 : decide (lost < 0) = false := decide_eq_false h3
    by_cases h4 : lost > votes * 1000000000
    ·have hi : quoMI votes lost seats = 2 := by rw [quoMI, if_neg (by omega)]
     rw [hi,if_neg (by omega)]
     have d4 : decide (lost > votes * 1000000000) = true := decide_eq_true h4
     clear hi
     go_enter Tryz.func35,Tryz.ntmps35
     go_wp2
     go_ret2
     exact ⟨rfl,rfl⟩
    ·have d4 : decide (lost > votes * 1000000000) = false := decide_eq_false h4
     by_cases h5 : seats < 1
     ·have hi : quoMI votes lost seats = 2 := by rw [quoMI, if_neg (by omega)]
      rw [hi,if_neg (by omega)]
      have d5 : decide (seats < 1) = true := decide_eq_true h5
      clear hi
      go_enter Tryz.func35,Tryz.ntmps35
      go_wp2
      go_ret2
      exact ⟨rfl,rfl⟩
     ·have d5 : decide (seats < 1) = false := decide_eq_false h5
      by_cases h6 : seats > 10
      ·have hi : quoMI votes lost seats = 2 := by rw [quoMI, if_neg (by omega)]
       rw [hi,if_neg (by omega)]
       have d6 : decide (seats > 10) = true := decide_eq_true h6
       clear hi
       go_enter Tryz.func35,Tryz.ntmps35
       go_wp2
       go_ret2
       exact ⟨rfl,rfl⟩
      ·have d6 : decide (seats > 10) = false := decide_eq_false h6
       have hi : quoMI votes lost seats = 0 := by rw [quoMI,if_pos (by omega)]
       rw [hi,if_pos rfl]
       have hw1 : IntKind.i64.wrap (votes * 1000000000 - lost) = votes * 1000000000 - lost := by rw [IntKind.wrap_i64];omega
       have hw2 : IntKind.i64.wrap (seats + 1) = seats + 1 := by rw [IntKind.wrap_i64];omega
       have hq0 : 0 ≤ (votes * 1000000000 - lost) / (seats + 1) := Int.ediv_nonneg (by omega) (by omega)
       have hq1 : (votes * 1000000000 - lost) / (seats + 1) ≤ votes * 1000000000 - lost := Int.ediv_le_self _ (by omega)
       have ht : (votes * 1000000000 - lost).tdiv (seats + 1) = (votes * 1000000000 - lost) / (seats + 1) := Int.tdiv_eq_ediv_of_nonneg (by omega)
       have hz : (seats + 1 == 0) = false := beq_eq_false_iff_ne.2 (by omega)
       have hz2 : ¬ seats + 1 = 0 := by omega
       have hz3 : ¬ seats + 1 = -1 := by omega
       unfold quoM
       obtain ⟨Q,hQ⟩ : ∃ Q,(votes * 1000000000 - lost) / (seats + 1) = Q := ⟨_,rfl⟩
       rw [hQ] at hq0 hq1 ht ⊢
       have w3 : IntKind.i64.wrap Q = Q := by rw [IntKind.wrap_i64];omega
       have w4 : IntKind.i64.wrap (Q + 1) = Q + 1 := by rw [IntKind.wrap_i64];omega
       clear hi hQ
       go_enter Tryz.func35,Tryz.ntmps35
       go_wp2
       go_ret2
       exact ⟨rfl,rfl⟩
set_option maxRecDepth 100000 in
set_option maxHeartbeats 1000000 in
theorem meeTurn1 (k : MCn) (v : MV) (s : MP) (x : Nat) (n many : Int) (w : World) (bc br g : Nat) (h : MSt k w v s) (hvh : v.vh.ownBlock = some g) (hc : w.cell? ⟨bc,0,none⟩ = some (.pointer (some ⟨k.gc,0,none⟩))) (hr : w.cell? ⟨br,1,none⟩ = some (.int .i64 many)) (hx : x < s.had.length)
  (h1 : 0 ≤ n * many ∧ n * many ≤ 1000000000000000) (h2 : 0 ≤ gI s.had x ∧ gI s.had x ≤ 1000000000000000) :
  Calls Tryz.prog 155 (#[.int .i64 (x : Int),.int .i64 n] ++ #[.pointer (some ⟨bc,0,none⟩),.pointer (some ⟨br,0,none⟩)]) w fun e w' => e = .returned (.tuple #[]) ∧ MSt k w' v { s with had := s.had.set x (gI s.had x + n * many) } ∧ Keep ([7].map (k.M v)) w w' := by
 obtain ⟨g',cap,c,hv,-,hgw,hfz,hcx,hd⟩ := Own.at1 h.oh (k := x) hx
 obtain ⟨rfl,-⟩ := hd.open
 obtain rfl : g' = g := by rw [hv] at hvh;exact Option.some.inj hvh
 have hgi : gI s.had x = s.had[x] := gI_at hx
 have hs := (h.below (Below.drew (Below.refl _ w))).setH hvh hx (y := gI s.had x + n * many) (WalkArith.wf_i64 (by omega))
 have hk : Keep ([7].map (k.M v)) w (w.drew.setCell ⟨g',x,none⟩ (.int .i64 (gI s.had x + n * many))) := Keep.trans (Keep.of_below (K := [7].map (k.M v)) (Below.drew (Below.refl _ w))) hs.2 (fun _ _ h => h)
 have c9 : w.cell? ⟨k.gc,9,none⟩ = some v.vh := h.cell.1 9
 have hlg := qa0 h.bc
 rw [hv] at c9
 have hf := hfz x
 have hlc := qag hc
 have hlr := qag hr
 obtain ⟨L,hL⟩ : ∃ L,s.had.length = L := ⟨_,rfl⟩
 rw [hL] at c9
 have hxL : x < L := by omega
 obtain ⟨y,hy⟩ : ∃ y,s.had[x] = y := ⟨_,rfl⟩
 rw [hgi] at hs hk h2 ⊢
 rw [hy] at hcx hs hk h2 ⊢
 have hw1 : IntKind.i64.wrap (n * many) = n * many := by rw [IntKind.wrap_i64];omega
 have hw2 : IntKind.i64.wrap (y + n * many) = y + n * many := by rw [IntKind.wrap_i64];omega
 have HS := Lib.hid hs.1;have HK := Lib.hid hk
 clear hs hk hgi hy hL hx h h1 h2 hd hv hvh hfz
 go_enter Tryz.func155,Tryz.ntmps155
 go_wp2
 go_still_tail 12,(by kernel_rfl)
 go_wp2
 go_returns
 exact ⟨rfl,HS.out,HK.out⟩
theorem Own.ofArr {base g : Nat} {w : World} {e : TypeId} {xs : List Int} (h : Arr .i64 w g e xs) (hb : base ≤ g) (hw : ∀ x ∈ xs,(Lit.int .i64 x).wf = true) (hl : xs.length ≤ maxLen) : Own base e 1 (dInt .i64) w (.slice (some ⟨g,0,none⟩) xs.length xs.length) xs :=
 have hd : Dec 1 (dInt .i64) w (xs.map (Value.int .i64)) xs := ⟨by simp,fun i hi => by
  have hk2 : i < (xs.map (Value.int .i64)).length := by simpa using hi
  rw [Nat.mul_one,List.drop_eq_getElem_cons hk2,List.take_succ_cons,List.take_zero,List.getElem_map]
  exact ⟨rfl,hw _ (List.getElem_mem hi)⟩⟩
 ⟨xs.map (Value.int .i64),⟨by have := hd.1;omega,.inr ⟨g,xs.length,(xs.map (Value.int .i64)).toArray,rfl,hb,h,Nat.le_refl _,hl,by simp,by rw [Nat.mul_one];exact List.take_of_length_le (by simp)⟩⟩,hd⟩
def MP.turned (s : MP) (C sn : Nat) (rows : List Row) : MP := { s with turns := s.turns + 1,had := hadMs C rows s.K,lost := lostM rows s.K,quota := quoL sn rows s.K }
theorem gI_fl2 {n : Nat} {f : Nat → Int} {k : Nat} (h : k < n) : gI (fl n f) (k : Int) = f k := by
 rw [gI_at (by rw [qae];exact h),fl_get]
def MP.row (s : MP) (C : Nat) (rows : List Row) (i : Nat) : MP := { s with turns := s.turns + 1,had := fl C fun x => hadM (rows.take i) s.K x,lost := lostM (rows.take i) s.K }
def MP.mark (s : MP) (C : Nat) (rows : List Row) (i : Nat) (m : List Int) (many : Int) (j : Nat) : MP := { s with turns := s.turns + 1,had := fl C fun x => hadJ s.K rows i m many j x,lost := lostM (rows.take i) s.K }
theorem row_zero (s : MP) (C : Nat) (rows : List Row) : s.row C rows 0 = { s with turns := s.turns + 1,had := List.replicate C 0,lost := 0 } := by
 unfold MP.row
 rw [← fl_zero]
 congr 1
theorem mark_zero (s : MP) (C : Nat) (rows : List Row) (i : Nat) (m : List Int) (many : Int) : s.mark C rows i m many 0 = s.row C rows i := by
 unfold MP.mark MP.row
 congr 1
 exact fl_congr fun x _ => hadJ_zero
theorem mark_succ (s : MP) {C : Nat} (rows : List Row) (i : Nat) {m : List Int} (many : Int) {j x : Nat} (hj : j < m.length) (hx : m[j] = (x : Int)) (hC : x < C) :
  { s.mark C rows i m many j with had := (s.mark C rows i m many j).had.set x (gI (s.mark C rows i m many j).had x + upU (restM s.K 1000000000 (m.take j)) (gI s.K m[j]) * many) } = s.mark C rows i m many (j + 1) := by
 unfold MP.mark
 dsimp only
 congr 1
 rw [fl_set,gI_fl2 hC]
 refine fl_congr fun z _ => ?_
 rw [hadJ_succ hj,hx]
 by_cases e : z = x
 ·rw [if_pos e,if_pos (by rw [e]),e]
 ·rw [if_neg e,if_neg (by omega)]
set_option maxRecDepth 100000 in
set_option maxHeartbeats 8000000 in
set_option linter.unusedSimpArgs false in
theorem meeTurn (k : MCn) (v : MV) (s : MP) (C sn : Nat) (w : World) (h : MSt k w v s) (hF : RankF k.p k.seats k.lot C sn) (hvo : k.votes = markS k.p.rows) (hK : KInv C s.K) (ht : 0 ≤ s.turns ∧ s.turns ≤ 1000) :
  Calls Tryz.prog 87 #[.pointer (some ⟨k.gc,0,none⟩)] w fun e w' => e = .returned (.tuple #[]) ∧ (∃ v',MSt k w' v' (s.turned C sn k.p.rows)) ∧ Below k.lo w w' := by
 obtain ⟨h0,k0⟩ := h.num 8 (s.turns + 1) { s with turns := s.turns + 1 } rfl rfl rfl rfl rfl rfl rfl rfl rfl
 have c8 : w.cell? ⟨k.gc,8,none⟩ = some (.int .i64 s.turns) := h.cell.1 8
 have f8 := h.cell.2 8
 have hlg := qa0 h.bc
 have hw1 : IntKind.i64.wrap (s.turns + 1) = s.turns + 1 := by rw [IntKind.wrap_i64];omega
 have HF := Lib.hid hF;have HH := Lib.hid h;have HK := Lib.hid hK;have Hvo := Lib.hid hvo
 clear hF h hK hvo
 go_enter Tryz.func87,Tryz.ntmps87
 go_upto_region 2 with fail
 obtain ⟨W2,hW2⟩ : ∃ W,W = (w.setCell ⟨k.gc,8,none⟩ (.int .i64 (s.turns + 1))).alloc (.cells #[.pointer (some ⟨k.gc,0,none⟩)] 108) := ⟨_,rfl⟩
 rw [← hW2]
 have h2 : MSt k W2 v { s with turns := s.turns + 1 } := by rw [hW2];exact h0.below (qa1 _ _)
 have hz2 : W2.heap.size = w.heap.size + 1 := by rw [hW2];simp
 have hbx : W2.heap[w.heap.size]? = some (.cells #[.pointer (some ⟨k.gc,0,none⟩)] 108 (0,0)) := by
  have := qa8 (w.setCell ⟨k.gc,8,none⟩ (.int .i64 (s.turns + 1))) (.cells #[.pointer (some ⟨k.gc,0,none⟩)] 108)
  rw [qai] at this
  rw [hW2];exact this
 have hb2 : Below k.lo w W2 := by
  rw [hW2]
  exact (HH.out.keepL (I := [1]) k0).alloc (by have := HH.out.big;have := HH.out.l1;have := HH.out.l2;rw [qai];omega) _
 have hcd := HF.out.cands
 have hc10 := HF.out.c10
 have hD := h2.below (Below.drew (Below.refl _ W2))
 have hmk := run_make_row' (P := Tryz.prog) 25 3 (.int .i64 0) 8 Tryz.underlying25 Tryz.infoInt rfl .i64 .i64 C (by omega) (by omega)
 obtain ⟨X,hX⟩ : ∃ X,X = (W2.alloc (.cells (madeCells #[.int .i64 0] C) 3)).drew := ⟨_,rfl⟩
 have hbX : Below W2.heap.size W2 X := by rw [hX];exact bt (qa1 _ _) (Below.drew (Below.refl _ _))
 have hOX : Own W2.heap.size 3 1 (dInt .i64) X (.slice (some ⟨W2.heap.size,0,none⟩) C C) (List.replicate C 0) := by
  have := Arr.madeN (k := .i64) W2 C 3
  have hl := Own.ofArr (base := W2.heap.size) (w := (W2.alloc (.cells (madeCells #[.int .i64 0] C) 3)).drew) this (Nat.le_refl _) (fun x hx => by rw [(List.mem_replicate.1 hx).2];rfl) (by rw [List.length_replicate];simp only [maxLen];omega)
  rw [List.length_replicate] at hl
  rw [hX];exact hl
 obtain ⟨m3,k3⟩ := h2.newH hbX hOX
 obtain ⟨m4,k4⟩ := m3.num 10 0 { s with turns := s.turns + 1,had := List.replicate C 0,lost := 0 } rfl rfl rfl rfl rfl rfl rfl rfl rfl
 have hS : ∀ W,Below W2.heap.size W2 W → W.cell? ⟨w.heap.size,0,none⟩ = some (.pointer (some ⟨k.gc,0,none⟩)) ∧ W.cell? ⟨k.gc,1,none⟩ = some (.int .i64 C) := fun W hW =>
  ⟨(qa6 hW (qa0 hbx) hbx).2.1 0,by rw [← hcd];exact (h2.below hW).cell.1 1⟩
 have hbc : w.heap.size ≠ k.gc := by have := HH.out.big;omega
 have hS9 : ∀ u,(X.setCell ⟨k.gc,9,none⟩ u).cell? ⟨w.heap.size,0,none⟩ = some (.pointer (some ⟨k.gc,0,none⟩)) ∧ (X.setCell ⟨k.gc,9,none⟩ u).cell? ⟨k.gc,1,none⟩ = some (.int .i64 C) := fun u => by
  have hb := (hS X hbX)
  refine ⟨(Same.setCell (S := fun b => b ≠ k.gc) (Same.refl _ X) (fun h => h rfl) u).cell hbc hb.1,?_⟩
  have h1 := (qa6 (Below.refl _ _) (qa0 (qa2 (qax hbX h2.bc) (o := 9) u)) (qa2 (qax hbX h2.bc) (o := 9) u)).2.1 1
  rw [h1,← hcd];rfl
 have fz9 := (h2.below hbX).cell.2 9
 have fz10 := m3.cell.2 10
 have hlg2 := qa0 h2.bc
 have hlX := qa0 (h2.below hbX).bc
 have cX9 := (h2.below hbX).cell.1 9
 have cX10 := m3.cell.1 10
 have HS := Lib.hid hS;have HS9 := Lib.hid hS9;have H4 := Lib.hid m4;have Hbx := Lib.hid hbx;have HD := Lib.hid hD;have Hb2 := Lib.hid hb2;have HbX := Lib.hid hbX;have HX := Lib.hid hX;have Hz2 := Lib.hid hz2;have H3 := Lib.hid m3;have H2 := Lib.hid h2
 clear hS hS9 m4 hbx hD hb2 hbX hOX m3 h2 k3 k4 hW2 h0 k0 c8 f8 hcd hX hz2
 refine qat (S := (fun W : World => W.cell? ⟨w.heap.size,0,none⟩ = some (.pointer (some ⟨k.gc,0,none⟩)) ∧ W.cell? ⟨k.gc,1,none⟩ = some (.int .i64 C))) (L := [13]) (by kernel_rfl) (HS.out _ (Below.drew (Below.refl _ W2))) (fun hHeld => ?_)
 refine tk 0 ?_ rfl hHeld ?_ ?_;rotate_left
 ·intro w hSw;(try dsimp only at hSw);go_simp;try (with_reducible rfl)
 (try simp only [la,lb,lc,ld,lf,lg,lh])
 refine tk 1 ?_ rfl hHeld ?_ ?_;rotate_left
 ·intro w hSw;(try dsimp only at hSw);go_simp;try (with_reducible rfl)
 (try simp only [la,lb,lc,ld,lf,lg,lh])
 refine tk 2 ?_ rfl hHeld ?_ ?_;rotate_left
 ·intro w hSw;(try dsimp only at hSw);go_simp;try (with_reducible rfl)
 (try simp only [la,lb,lc,ld,lf,lg,lh])
 refine tk 3 ?_ rfl hHeld ?_ ?_;rotate_left
 ·intro w hSw;(try dsimp only at hSw);go_simp;try (with_reducible rfl)
 (try simp only [la,lb,lc,ld,lf,lg,lh])
 refine tk 4 ?_ rfl hHeld ?_ ?_;rotate_left
 ·intro w hSw;(try dsimp only at hSw);go_simp;try (with_reducible rfl)
 (try simp only [la,lb,lc,ld,lf,lg,lh])
 refine tk 5 ?_ rfl hHeld ?_ ?_;rotate_left
 ·intro w hSw;(try dsimp only at hSw);go_simp;try (with_reducible rfl)
 (try simp only [la,lb,lc,ld,lf,lg,lh])
 refine tk 6 ?_ rfl hHeld ?_ ?_;rotate_left
 ·intro w hSw;(try dsimp only at hSw);go_simp;try (with_reducible rfl)
 (try simp only [la,lb,lc,ld,lf,lg,lh])
 refine qa9 (i := 7) (by kernel_rfl) rfl (fun K hK => ?_)
 (go_simp;rw [← HX.out])
 refine hK.out _ _ (HS.out _ HbX.out) (fun hHeld => ?_)
 clear hK K
 (try simp only [la,lb,lc,ld,lf,lg,lh])
 refine tk 8 ?_ rfl hHeld ?_ ?_;rotate_left
 ·intro w hSw;(try dsimp only at hSw);go_simp;try (with_reducible rfl)
 (try simp only [la,lb,lc,ld,lf,lg,lh])
 refine tk 9 ?_ rfl hHeld ?_ ?_;rotate_left
 ·intro w hSw;(try dsimp only at hSw);go_simp;try (with_reducible rfl)
 (try simp only [la,lb,lc,ld,lf,lg,lh])
 refine qa9 (i := 10) (by kernel_rfl) rfl (fun K hK => ?_)
 go_simp
 refine hK.out _ _ (HS9.out _) (fun hHeld => ?_)
 clear hK K
 (try simp only [la,lb,lc,ld,lf,lg,lh])
 refine qa9 (i := 11) (by kernel_rfl) rfl (fun K hK => ?_)
 go_simp
 refine hK.out _ _ (HS9.out _) (fun hHeld => ?_)
 clear hK K
 (try simp only [la,lb,lc,ld,lf,lg,lh])
 refine tk 12 ?_ rfl hHeld ?_ ?_;rotate_left
 ·intro w hSw;(try dsimp only at hSw);go_simp;try (with_reducible rfl)
 (try simp only [la,lb,lc,ld,lf,lg,lh])
 refine wpAnyL_last (i := 13) (by kernel_rfl) rfl (by kernel_rfl) (fun K hK => ?_)
 go_simp
 refine hK.out _ _ ?_
 clear hK K
 (try simp only [la,lb,lc,ld,lf,lg,lh])
 refine qam (by kernel_rfl) ?_ _
 obtain ⟨W4,hW4⟩ : ∃ W,W = (X.setCell ⟨k.gc,9,none⟩ (.slice (some ⟨W2.heap.size,0,none⟩) C C)).setCell ⟨k.gc,10,none⟩ (.int .i64 0) := ⟨_,rfl⟩
 have h4 := H4.out
 rw [← hW4] at h4 ⊢
 obtain ⟨v3,hv3⟩ : ∃ v3,v3 = { v with vh := .slice (some ⟨W2.heap.size,0,none⟩) C C } := ⟨_,rfl⟩
 rw [← hv3,← row_zero s C k.p.rows] at h4
 have hvh : v3.vh.ownBlock = some W2.heap.size := by rw [hv3];rfl
 have hbx4 : W4.cell? ⟨w.heap.size,0,none⟩ = some (.pointer (some ⟨k.gc,0,none⟩)) := by
  rw [hW4]
  exact (Same.setCell (S := fun b => b ≠ k.gc) (Same.refl _ _) (fun h => h rfl) _).cell hbc (HS9.out _).1
 have hb4 : Below k.lo w W4 := by
  rw [hW4]
  exact ((Hb2.out.trans (HbX.out.mono (by have := H2.out.big;have := H2.out.l1;have := H2.out.l2;omega))).setCell (p := ⟨k.gc,9,none⟩) (by have := H2.out.l1;have := H2.out.l2;dsimp only;omega) _).setCell (p := ⟨k.gc,10,none⟩) (by have := H2.out.l1;have := H2.out.l2;dsimp only;omega) _
 have c3 : W4.cell? ⟨k.gc,3,none⟩ = some k.vp := h4.cell.1 3
 have hlg4 := qa0 h4.bc
 obtain ⟨ap,cp,hvp,-,hlp⟩ := RSl.shape h4.rows
 obtain ⟨n,hn⟩ : ∃ n,k.p.rows.length = n := ⟨_,rfl⟩
 rw [hvp,hn] at c3
 rw [hn] at hvp
 have hn64 : n ≤ 64 := hn ▸ HF.out.rows
 have hne : w.heap.size ≠ W2.heap.size := by have := Hz2.out;omega
 have Hvp := Lib.hid hvp;have Hn := Lib.hid hn;have H4' := Lib.hid h4;have Hbx4 := Lib.hid hbx4;have Hb4 := Lib.hid hb4;have Hvh := Lib.hid hvh;have Hne := Lib.hid hne
 have hlq := qag hbx4
 clear hvp hn h4 hb4 hvh hne hW4 hv3 H4 HS HS9 HD HX H3 hmk cX9 cX10 fz9 fz10 hlX hlg2 hlp hw1
 go_wp2
 clear c3 hbx4 hlq
 go_loopw [3,4,30] (fun _ _ i wr => ∃ m : Nat,m ≤ n ∧ i = .int .i64 m ∧ Hid (MSt k wr v3 (s.row C k.p.rows m)) ∧ Hid (wr.cell? ⟨w.heap.size,0,none⟩ = some (.pointer (some ⟨k.gc,0,none⟩))) ∧ Hid (Below k.lo w wr)) (fun _ _ i _ => n - (intOf i).toNat)
 case atStart => exact ⟨0,Nat.zero_le _,rfl,H4',Hbx4,Hb4⟩
 case round =>
  obtain ⟨i,hi,rfl,hM,hbx,hb⟩ := hrel
  by_cases hlt : i < n
  ·have hlr : i < k.p.rows.length := by rw [Hn.out]; exact hlt
   have hR := hM.out.rows
   rw [Hvp.out] at hR
   obtain ⟨b,off,cc,dd,rfl,hSb,hbw,hc,hd,hx⟩ := RSl.at2 hR i hlr
   obtain ⟨ax,capx,rfl,rfl,-,hwm,hIx⟩ := hx.open
   obtain ⟨m1,m2⟩ := HF.out.marks _ (List.getElem_mem hlr)
   have hm := HF.out.many _ (List.getElem_mem hlr)
   have hJb := hadJ_bound HK.out.ok HF.out.many HF.out.sum hlr
   have hPb := fun j (hj : j < k.p.rows[i].marks.length) => partJ_bound HK.out.ok HF.out.many HF.out.sum hlr hj
   have hLb := lostJ_bound HK.out.ok HF.out.many HF.out.sum hlr
   have hLs := lostM_succ (K := s.K) hlr
   have hAll := fun x : Nat => hadJ_all (K := s.K) (x := (x : Int)) hlr
   obtain ⟨r,hr⟩ : ∃ r,k.p.rows[i] = r := ⟨_,rfl⟩
   simp only [hr] at hc hd hIx hwm m1 m2 hm hJb hPb hLb hLs hAll
   have hml10 := nodup_len m1 m2
   have hmark : ∀ j,s.mark C k.p.rows i r.marks r.many j = { s with turns := s.turns + 1,had := fl C fun x => hadJ s.K k.p.rows i r.marks r.many j x,lost := lostM (k.p.rows.take i) s.K } := fun j => rfl
   obtain ⟨ml,hml⟩ : ∃ ml,r.marks.length = ml := ⟨_,rfl⟩
   rw [hml] at hc hIx hml10
   have Hml := Lib.hid hml
   obtain ⟨Y,hY⟩ : ∃ Y,Y = wr.alloc (.cells #[.slice ax ml capx,.int .i64 r.many] 66) := ⟨_,rfl⟩
   have hbY : Below wr.heap.size wr Y := by rw [hY];exact qa1 _ _
   have hYb : Y.heap[wr.heap.size]? = some (.cells #[.slice ax ml capx,.int .i64 r.many] 66 (0,0)) := by rw [hY];exact qa8 _ _
   obtain ⟨ak,ck,hvk⟩ : ∃ a c,v3.vk = .slice a s.K.length c := Own.shape hM.out.ok
   rw [HK.out.len] at hvk
   have hzr := hM.out.big
   have hgr : W2.heap.size < wr.heap.size := (hM.out.low 7 _ Hvh.out).2
   have hMY := hM.out.below hbY
   rw [← mark_zero s C k.p.rows i r.marks r.many] at hMY
   have hS5 : ∀ W,Below Y.heap.size Y W → W.cell? ⟨wr.heap.size,0,none⟩ = some (.slice ax ml capx) ∧ W.cell? ⟨w.heap.size,0,none⟩ = some (.pointer (some ⟨k.gc,0,none⟩)) ∧ W.cell? ⟨k.gc,6,none⟩ = some (.slice ak C ck) := fun W hW =>
    ⟨(qa6 hW (qa0 hYb) hYb).2.1 0,(Same.of_below (S := Any) (bt hbY hW)).cell trivial hbx.out,by rw [← hvk];exact (hMY.below hW).cell.1 6⟩
   have hKp : ∀ W,Keep [some W2.heap.size] Y.drew W → W.cell? ⟨wr.heap.size,0,none⟩ = some (.slice ax ml capx) ∧ W.cell? ⟨wr.heap.size,1,none⟩ = some (.int .i64 r.many) ∧ W.cell? ⟨w.heap.size,0,none⟩ = some (.pointer (some ⟨k.gc,0,none⟩)) := fun W hW => by
    have e1 := hW.box (g := wr.heap.size) (qax (Below.drew (Below.refl _ Y)) hYb) (by simp;omega)
    have e2 := qa6 (Below.refl _ W) (qa0 e1) e1
    exact ⟨e2.2.1 0,e2.2.1 1,(hW.same (S := fun b => b ≠ W2.heap.size) (fun b hb hm => hb (Option.some.inj (List.mem_singleton.1 hm)))).cell Hne.out ((Same.of_below (S := Any) (bt hbY (Below.drew (Below.refl _ Y)))).cell trivial hbx.out)⟩
   have hPt := meeParts (fun j W => MSt k W v3 (s.mark C k.p.rows i r.marks r.many j) ∧ Keep [some W2.heap.size] Y.drew W) (fun b => b < k.lo) (From (k.gc + 1)) (.slice ax ml capx) (.slice ak C ck) r.marks s.K Y.drew 155 #[.pointer (some ⟨w.heap.size,0,none⟩),.pointer (some ⟨wr.heap.size,0,none⟩)] (enters_of Tryz.func155 (by kernel_rfl) rfl)
    (by rw [hml];omega) (fun x hx => by rw [HK.out.len];exact m2 x hx) HK.out.ok ⟨hMY.below (Below.drew (Below.refl _ Y)),Keep.refl _ _⟩ (fun j W W' ⟨h1,h2⟩ hW => ⟨h1.below hW,h2.then hW⟩)
    (fun j W ⟨h1,h2⟩ => RInts.same ((h2.same (fun b hb hm => by have := Option.some.inj (List.mem_singleton.1 hm);have := H2.out.big;have := H2.out.l1;have := H2.out.l2;omega))) (RInts.same (.of_below (bt hbY (Below.drew (Below.refl _ Y)))) hIx))
    (fun j W ⟨h1,h2⟩ => by rw [← hvk];exact Own.rsl h1.ok (by show s.K.length ≤ _;rw [HK.out.len];omega))
    (fun j hj W ⟨h1, h2⟩ => by
     obtain ⟨x0,x1⟩ := m2 _ (List.getElem_mem hj)
     obtain ⟨xn,hxn⟩ : ∃ xn : Nat,r.marks[j] = (xn : Int) := ⟨r.marks[j].toNat,by omega⟩
     have hxC : xn < C := by omega
     obtain ⟨-,q1,q0⟩ := hKp W h2
     have hms := mark_succ s k.p.rows i r.many hj hxn hxC
     have hgi : gI (s.mark C k.p.rows i r.marks r.many j).had (xn : Int) = hadJ s.K k.p.rows i r.marks r.many j xn := gI_fl2 hxC
     rw [hxn] at hms ⊢
     have hp := hPb j hj
     rw [hxn] at hp
     refine (meeTurn1 k v3 _ xn _ r.many W w.heap.size wr.heap.size W2.heap.size h1 Hvh.out q0 q1 (by show xn < (fl C _).length;rw [qae];exact hxC) hp.2 (by rw [hgi];exact hJb j xn)).mono ?_
     rintro e w' ⟨e1,e2,e3⟩
     rw [hms] at e2
     refine ⟨e1,e2,h2.trans e3 fun b _ hb => ?_⟩
     rw [← Hvh.out]
     exact hb)
   rw [hml] at hPt
   obtain ⟨R,hRe⟩ : ∃ R,restM s.K 1000000000 r.marks = R := ⟨_,rfl⟩
   obtain ⟨lo,hlo⟩ : ∃ l,lostM (k.p.rows.take i) s.K = l := ⟨_,rfl⟩
   rw [hRe] at hPt
   rw [hRe,hlo] at hLb hLs
   rw [hml] at hLs
   have hfin : s.mark C k.p.rows i r.marks r.many ml = { s with turns := s.turns + 1,had := fl C fun x => hadM (k.p.rows.take (i + 1)) s.K x,lost := lo } := by
    unfold MP.mark
    rw [hlo]
    congr 1
    refine fl_congr fun x _ => ?_
    rw [← hAll x,hml]
   rw [hfin] at hPt
   have hw1 : IntKind.i64.wrap (R * r.many) = R * r.many := by rw [IntKind.wrap_i64];omega
   have hw2 : IntKind.i64.wrap (lo + R * r.many) = lo + R * r.many := by rw [IntKind.wrap_i64];omega
   have HS5 := Lib.hid hS5;have HPt := Lib.hid hPt;have HKp := Lib.hid hKp;have HLs := Lib.hid hLs;have HY := Lib.hid hY;have HbY := Lib.hid hbY;have Hbb := Lib.hid hb.out
   have HFL : Hid (∀ W,Keep [some W2.heap.size] Y.drew W → Below k.lo w W) := Lib.hid fun W hW => (hb.out.trans ((bt hbY (Below.drew (Below.refl _ Y))).mono (by have := H2.out.big;have := H2.out.l1;have := H2.out.l2;omega))).trans (hW.below (fun b hb hm => by have := Option.some.inj (List.mem_singleton.1 hm);have := H2.out.big;have := H2.out.l1;have := H2.out.l2;omega) (by have := hbY.size;have := H2.out.big;have := H2.out.l1;have := H2.out.l2;show k.lo ≤ Y.heap.size;omega))
   clear hS5 hPt hKp hLs hY hbY hJb hPb hLb hAll hmark hml hYb hMY hIx hx hR hRe hlo hr hwm m1 m2 hm hfin hlr hM hbx hb
   have HK6 : Hid (∀ W s',MSt k W v3 s' → W.cell? ⟨k.gc,6,none⟩ = some (.slice ak C ck)) := Lib.hid fun W s' h => (h.cell.1 6).trans (congrArg some hvk)
   go_upto_region 6 with fail
   rw [← HY.out]
   refine qat (S := (fun W : World => W.cell? ⟨wr.heap.size,0,none⟩ = some (.slice ax ml capx) ∧ W.cell? ⟨w.heap.size,0,none⟩ = some (.pointer (some ⟨k.gc,0,none⟩)) ∧ W.cell? ⟨k.gc,6,none⟩ = some (.slice ak C ck))) (L := [8]) (by kernel_rfl) (HS5.out _ (Below.drew (Below.refl _ Y))) (fun hHeld => ?_)
   refine tk 0 ?_ rfl hHeld ?_ ?_;rotate_left
   ·intro w hSw;(try dsimp only at hSw);go_simp;try (with_reducible rfl)
   (try simp only [la,lb,lc,ld,lf,lg,lh])
   refine tk 1 ?_ rfl hHeld ?_ ?_;rotate_left
   ·intro w hSw;(try dsimp only at hSw);go_simp;try (with_reducible rfl)
   (try simp only [la,lb,lc,ld,lf,lg,lh])
   refine tk 2 ?_ rfl hHeld ?_ ?_;rotate_left
   ·intro w hSw;(try dsimp only at hSw);go_simp;try (with_reducible rfl)
   (try simp only [la,lb,lc,ld,lf,lg,lh])
   refine tk 3 ?_ rfl hHeld ?_ ?_;rotate_left
   ·intro w hSw;(try dsimp only at hSw);go_simp;try (with_reducible rfl)
   (try simp only [la,lb,lc,ld,lf,lg,lh])
   refine tk 4 ?_ rfl hHeld ?_ ?_;rotate_left
   ·intro w hSw;(try dsimp only at hSw);go_simp;try (with_reducible rfl)
   (try simp only [la,lb,lc,ld,lf,lg,lh])
   refine tk 5 ?_ rfl hHeld ?_ ?_;rotate_left
   ·intro w hSw;(try dsimp only at hSw);go_simp;try (with_reducible rfl)
   (try simp only [la,lb,lc,ld,lf,lg,lh])
   refine tk 6 ?_ rfl hHeld ?_ ?_;rotate_left
   ·intro w hSw;(try dsimp only at hSw);go_simp;try (with_reducible rfl)
   (try simp only [la,lb,lc,ld,lf,lg,lh])
   refine qa9 (i := 7) (by kernel_rfl) rfl (fun K hK => ?_)
   (go_simp;go_at_call 94;refine HPt.out.mono ?_;rintro e w5 ⟨rfl,h5,k5⟩;obtain ⟨q5,q6,q7⟩ := HKp.out _ k5;have q8 := HK6.out _ _ h5;have q9 : w5.cell? ⟨k.gc,10,none⟩ = some (.int .i64 lo) := h5.cell.1 10;have q10 := h5.cell.2 10;have q11 := qa0 h5.bc;have q12 := qag q5;have q13 := qag q7;have H5 := Lib.hid h5;have B5 := Lib.hid (HFL.out _ k5);clear h5 k5)
   refine hK.out _ _ (And.intro q5 (And.intro q7 q8)) (fun hHeld => ?_)
   clear hK K
   (try simp only [la,lb,lc,ld,lf,lg,lh])
   refine wpAnyL_last (i := 8) (by kernel_rfl) rfl (by kernel_rfl) (fun K hK => ?_)
   go_simp
   refine hK.out _ _ ?_
   clear hK K
   (try simp only [la,lb,lc,ld,lf,lg,lh])
   refine qam (by kernel_rfl) ?_ _
   by_cases hm0 : 0 < ml
   ·have hmi : (0 : Int) < (ml : Int) := by omega
    have hls := HLs.out
    rw [if_pos hm0] at hls
    obtain ⟨m6,k6⟩ := (H5.out.below (Below.drew (Below.refl _ w5))).num 10 (lo + R * r.many) (s.row C k.p.rows (i + 1)) (by show _ = k.cells v3 (s.row C k.p.rows (i + 1));unfold MP.row;rw [hls];rfl) rfl rfl rfl rfl rfl rfl rfl rfl
    have hc6 : (w5.drew.setCell ⟨k.gc,10,none⟩ (.int .i64 (lo + R * r.many))).cell? ⟨w.heap.size,0,none⟩ = some (.pointer (some ⟨k.gc,0,none⟩)) := (Same.setCell (S := fun b => b ≠ k.gc) (Same.refl _ _) (fun h => h rfl) _).cell hbc q7
    have hb6 : Below k.lo w (w5.drew.setCell ⟨k.gc,10,none⟩ (.int .i64 (lo + R * r.many))) := (B5.out.drew).setCell (p := ⟨k.gc,10,none⟩) (by have := H2.out.l1;have := H2.out.l2;dsimp only;omega) _
    have H6 := Lib.hid m6;have C6 := Lib.hid hc6;have B6 := Lib.hid hb6
    clear m6 k6 hc6 hb6 hls q8
    go_wp2
    go_still_tail 9,(by kernel_rfl)
    go_wp2
    exact ⟨⟨i + 1,by omega,by go_num,H6,C6,B6⟩,by simp [intOf];omega⟩
   ·have hm00 : ml = 0 := by omega
    have hls := HLs.out
    rw [if_neg hm0,Int.add_zero] at hls
    have h6 : MSt k w5 v3 (s.row C k.p.rows (i + 1)) := by
     have := H5.out
     unfold MP.row
     rw [hls]
     exact this
    have hmi : ¬ (0 : Int) < (ml : Int) := by omega
    have H6 := Lib.hid h6;have C6 := Lib.hid q7
    clear h6 hls hm00
    go_wp2
    exact ⟨⟨i + 1,by omega,by go_num,H6,C6,B5⟩,by simp [intOf];omega⟩
  ·obtain rfl : n = i := by omega
   have hfull : s.row C k.p.rows n = { s with turns := s.turns + 1,had := hadMs C k.p.rows s.K,lost := lostM k.p.rows s.K } := by
    unfold MP.row
    rw [List.take_of_length_le (by rw [Hn.out];exact Nat.le_refl _)]
    rfl
   have hM2 := hM.out
   rw [hfull] at hM2
   have hlb := HF.out.lostM HK.out.ok
   have hvb := HF.out.votes
   have hqi : quoMI k.votes (lostM k.p.rows s.K) k.seats = 0 := by
    have := HF.out.s
    have := HF.out.seats
    rw [quoMI,Hvo.out,if_pos ⟨hvb,hlb,by omega⟩]
   have hQ := fun W => meeQuota k.votes (lostM k.p.rows s.K) k.seats W
   have hqv : quoMV k.votes (lostM k.p.rows s.K) k.seats = quoL sn k.p.rows s.K := by rw [quoMV,if_pos hqi,quoL,Hvo.out,HF.out.seats]
   rw [hqv,hqi] at hQ
   obtain ⟨m7,k7⟩ := (hM2.below (Below.drew (Below.refl _ wr))).num 11 (quoL sn k.p.rows s.K) (s.turned C sn k.p.rows) rfl rfl rfl rfl rfl rfl rfl rfl rfl
   obtain ⟨L,hL⟩ : ∃ L,lostM k.p.rows s.K = L := ⟨_,rfl⟩
   obtain ⟨Q,hQe⟩ : ∃ Q,quoL sn k.p.rows s.K = Q := ⟨_,rfl⟩
   rw [hL,hQe] at hQ
   rw [hQe] at m7
   have hS : ∀ W,Below wr.heap.size wr W → W.cell? ⟨w.heap.size,0,none⟩ = some (.pointer (some ⟨k.gc,0,none⟩)) ∧ W.cell? ⟨k.gc,5,none⟩ = some (.int .i64 k.votes) ∧ W.cell? ⟨k.gc,10,none⟩ = some (.int .i64 L) ∧ W.cell? ⟨k.gc,4,none⟩ = some (.int .i64 k.seats) := fun W hW =>
    ⟨(Same.of_below (S := Any) hW).cell trivial hbx.out,(hM2.below hW).cell.1 5,by rw [← hL];exact (hM2.below hW).cell.1 10,(hM2.below hW).cell.1 4⟩
   have hb7 : Below k.lo w (wr.drew.setCell ⟨k.gc,11,none⟩ (.int .i64 Q)) := (hb.out.drew).setCell (p := ⟨k.gc,11,none⟩) (by have := H2.out.l1;have := H2.out.l2;dsimp only;omega) _
   have fz := hM2.cell.2 11
   have cz := hM2.cell.1 11
   have hlz := qa0 hM2.bc
   have hS7 : (wr.drew.setCell ⟨k.gc,11,none⟩ (.int .i64 Q)).cell? ⟨w.heap.size,0,none⟩ = some (.pointer (some ⟨k.gc,0,none⟩)) ∧ (wr.drew.setCell ⟨k.gc,11,none⟩ (.int .i64 Q)).cell? ⟨k.gc,5,none⟩ = some (.int .i64 k.votes) ∧ (wr.drew.setCell ⟨k.gc,11,none⟩ (.int .i64 Q)).cell? ⟨k.gc,10,none⟩ = some (.int .i64 L) ∧ (wr.drew.setCell ⟨k.gc,11,none⟩ (.int .i64 Q)).cell? ⟨k.gc,4,none⟩ = some (.int .i64 k.seats) :=
    ⟨(Same.setCell (S := fun b => b ≠ k.gc) (Same.refl _ _) (fun h => h rfl) _).cell hbc hbx.out,m7.cell.1 5,by rw [← hL];exact m7.cell.1 10,m7.cell.1 4⟩
   have HS7 := Lib.hid hS7
   clear hS7
   have HS := Lib.hid hS;have HQ := Lib.hid hQ;have H7 := Lib.hid m7;have B7 := Lib.hid hb7
   clear hS hQ m7 hb7 k7 hM hM2 hfull hlb hvb hqi hqv hL hQe hbx hb
   go_upto_region 10 with fail
   refine qat (S := (fun W : World => W.cell? ⟨w.heap.size,0,none⟩ = some (.pointer (some ⟨k.gc,0,none⟩)) ∧ W.cell? ⟨k.gc,5,none⟩ = some (.int .i64 k.votes) ∧ W.cell? ⟨k.gc,10,none⟩ = some (.int .i64 L) ∧ W.cell? ⟨k.gc,4,none⟩ = some (.int .i64 k.seats))) (L := []) (by kernel_rfl) (HS.out _ (Below.drew (Below.refl _ wr))) (fun hHeld => ?_)
   refine tk 0 ?_ rfl hHeld ?_ ?_;rotate_left
   ·intro w hSw;(try dsimp only at hSw);go_simp;try (with_reducible rfl)
   (try simp only [la,lb,lc,ld,lf,lg,lh])
   refine tk 1 ?_ rfl hHeld ?_ ?_;rotate_left
   ·intro w hSw;(try dsimp only at hSw);go_simp;try (with_reducible rfl)
   (try simp only [la,lb,lc,ld,lf,lg,lh])
   refine tk 2 ?_ rfl hHeld ?_ ?_;rotate_left
   ·intro w hSw;(try dsimp only at hSw);go_simp;try (with_reducible rfl)
   (try simp only [la,lb,lc,ld,lf,lg,lh])
   refine tk 3 ?_ rfl hHeld ?_ ?_;rotate_left
   ·intro w hSw;(try dsimp only at hSw);go_simp;try (with_reducible rfl)
   (try simp only [la,lb,lc,ld,lf,lg,lh])
   refine tk 4 ?_ rfl hHeld ?_ ?_;rotate_left
   ·intro w hSw;(try dsimp only at hSw);go_simp;try (with_reducible rfl)
   (try simp only [la,lb,lc,ld,lf,lg,lh])
   refine tk 5 ?_ rfl hHeld ?_ ?_;rotate_left
   ·intro w hSw;(try dsimp only at hSw);go_simp;try (with_reducible rfl)
   (try simp only [la,lb,lc,ld,lf,lg,lh])
   refine tk 6 ?_ rfl hHeld ?_ ?_;rotate_left
   ·intro w hSw;(try dsimp only at hSw);go_simp;try (with_reducible rfl)
   (try simp only [la,lb,lc,ld,lf,lg,lh])
   refine tk 7 ?_ rfl hHeld ?_ ?_;rotate_left
   ·intro w hSw;(try dsimp only at hSw);go_simp;try (with_reducible rfl)
   (try simp only [la,lb,lc,ld,lf,lg,lh])
   refine tk 8 ?_ rfl hHeld ?_ ?_;rotate_left
   ·intro w hSw;(try dsimp only at hSw);go_simp;try (with_reducible rfl)
   (try simp only [la,lb,lc,ld,lf,lg,lh])
   refine tk 9 ?_ rfl hHeld ?_ ?_;rotate_left
   ·intro w hSw;(try dsimp only at hSw);go_simp;try (with_reducible rfl)
   (try simp only [la,lb,lc,ld,lf,lg,lh])
   refine tk 10 ?_ rfl hHeld ?_ ?_;rotate_left
   ·intro w hSw;(try dsimp only at hSw);go_simp;try (with_reducible rfl)
   (try simp only [la,lb,lc,ld,lf,lg,lh])
   refine tk 11 ?_ rfl hHeld ?_ ?_;rotate_left
   ·intro w hSw;(try dsimp only at hSw);go_simp;try (with_reducible rfl)
   (try simp only [la,lb,lc,ld,lf,lg,lh])
   refine tk 12 ?_ rfl hHeld ?_ ?_;rotate_left
   ·intro w hSw;(try dsimp only at hSw);go_simp;try (with_reducible rfl)
   (try simp only [la,lb,lc,ld,lf,lg,lh])
   refine qa9 (i := 13) (by kernel_rfl) rfl (fun K hK => ?_)
   (go_simp;go_at_call 35;refine (HQ.out _).mono ?_;rintro e w5 ⟨rfl,e5⟩;obtain rfl := e5.symm;clear e5)
   refine hK.out _ _ (HS.out _ (Below.drew (Below.refl _ wr))) (fun hHeld => ?_)
   clear hK K
   (try simp only [la,lb,lc,ld,lf,lg,lh])
   refine tk 14 ?_ rfl hHeld ?_ ?_;rotate_left
   ·intro w hSw;(try dsimp only at hSw);go_simp;try (with_reducible rfl)
   (try simp only [la,lb,lc,ld,lf,lg,lh])
   refine tk 15 ?_ rfl hHeld ?_ ?_;rotate_left
   ·intro w hSw;(try dsimp only at hSw);go_simp;try (with_reducible rfl)
   (try simp only [la,lb,lc,ld,lf,lg,lh])
   refine tk 16 ?_ rfl hHeld ?_ ?_;rotate_left
   ·intro w hSw;(try dsimp only at hSw);go_simp;try (with_reducible rfl)
   (try simp only [la,lb,lc,ld,lf,lg,lh])
   refine tk 17 ?_ rfl hHeld ?_ ?_;rotate_left
   ·intro w hSw;(try dsimp only at hSw);go_simp;try (with_reducible rfl)
   (try simp only [la,lb,lc,ld,lf,lg,lh])
   refine tk 18 ?_ rfl hHeld ?_ ?_;rotate_left
   ·intro w hSw;(try dsimp only at hSw);go_simp;try (with_reducible rfl)
   (try simp only [la,lb,lc,ld,lf,lg,lh])
   refine qa9 (i := 19) (by kernel_rfl) rfl (fun K hK => ?_)
   go_simp
   refine hK.out _ _ HS7.out (fun hHeld => ?_)
   clear hK K
   (try simp only [la,lb,lc,ld,lf,lg,lh])
   refine qam (by kernel_rfl) ?_ _
   go_wp2
   go_returns
   exact ⟨rfl,⟨_,H7.out⟩,B7.out⟩
end
end Go.Proofs.YthcbkhfmdginiaaGreat
