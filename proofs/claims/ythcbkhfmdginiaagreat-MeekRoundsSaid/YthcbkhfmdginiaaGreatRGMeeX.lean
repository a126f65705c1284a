/- Texts of one claim,put together: MeeV,MeeX,MeeM0. -/
import Derived.Test.YthcbkhfmdginiaaGreatRGMeeI
import Derived.Test.YthcbkhfmdginiaaGreatRGMeeK
import Derived.Test.YthcbkhfmdginiaaGreatRGGreI
import Derived.Test.YthcbkhfmdginiaaGreatRGMeeP
import Derived.Test.YthcbkhfmdginiaaGreatRGGreM

namespace Go.Proofs.YthcbkhfmdginiaaGreat
section
open Go Go.RowKit Go.Shelf

structure MSb (k : MCn) (w : World) (v : MV) (s : MP) : Prop where
 bC : w.heap[k.gC]? = some (.cells #[v.ve,v.vrd,v.vt,k.vl] 97 (0,0))
 gl : k.gc < w.heap.size
 oe : Own (k.gc + 1) 3 1 (dInt .i64) w v.ve s.el
 ord : Own (k.gc + 1) 58 6 (dRnd (k.R w v)) w v.vrd s.rounds
 ot : Own (k.gc + 1) 115 2 (dTie (k.R w v)) w v.vt s.ties
 ok : Own (k.gc + 1) 3 1 (dInt .i64) w v.vk s.K
 oL : Own k.lo 3 1 (dInt .i64) w v.vL s.inn
 oh : Own (k.gc + 1) 3 1 (dInt .i64) w v.vh s.had
 or : Own (k.gc + 1) 3 1 (dInt .i64) w v.vr s.re
 oo : RInts (k.R w v) w v.vo s.ro
 ap : ∀ i j b,k.M v i = some b → k.M v j = some b → i = j
 lot : RInts (k.T w v) w k.vl k.lot
 rows : RRows (fun b => b < k.lo) w k.vp k.p.rows
 bx : ∀ b o,k.X b o → w.heap[b]? = some o ∧ ∀ i,k.M v i ≠ some b
 l1 : k.lo ≤ k.gC
 l2 : k.gC < k.gc
section
variable {k : MCn} {w w1 : World} {v v' : MV} {s s' : MP}
theorem MSt.b (h : MSt k w v s) : MSb k w v s := ⟨h.bC,qa0 h.bc,h.oe,h.ord,h.ot,h.ok,h.oL,h.oh,h.or,h.oo,h.ap,h.lot,h.rows,h.bx,h.l1,h.l2⟩
theorem MSb.t (h : MSb k w v s) (hb : w.heap[k.gc]? = some (.cells (k.cells v s) 110 (0,0))) : MSt k w v s := ⟨h.bC,hb,h.oe,h.ord,h.ot,h.ok,h.oL,h.oh,h.or,h.oo,h.ap,h.lot,h.rows,h.bx,h.l1,h.l2⟩
theorem MSb.big (h : MSb k w v s) : k.gc + 1 ≤ w.heap.size := h.gl
theorem MSb.low (h : MSb k w v s) : ∀ i b,k.M v i = some b → k.lo ≤ b ∧ b < w.heap.size := by
 have l1 := h.l1
 have l2 := h.l2
 have hg := h.big
 intro i b hb
 match i,hb with
 | 0,hb => cases hb;omega
 | 1,hb => cases hb;omega
 | 2,hb => have := Own.lt h.oe b hb;omega
 | 3,hb => have := Own.lt h.ord b hb;omega
 | 4,hb => have := Own.lt h.ot b hb;omega
 | 5,hb => have := Own.lt h.ok b hb;omega
 | 6,hb => have := Own.lt h.oL b hb;omega
 | 7,hb => have := Own.lt h.oh b hb;omega
 | 8,hb => have := Own.lt h.or b hb;omega
 | n + 9,hb => cases hb
theorem MSb.out (h : MSb k w v s) {I : List Nat} {j : Nat} (hj : j ∉ I) : ∀ b,k.M v j = some b → some b ∉ I.map (k.M v) := fun b hb hm => by
 obtain ⟨i,hi,he⟩ := List.mem_map.1 hm
 exact hj (h.ap i j b he hb ▸ hi)
theorem MSb.free {I : List Nat} {b : Nat} (hb : ∀ i,k.M v i ≠ some b) : some b ∉ I.map (k.M v) := fun hm => by
 obtain ⟨i,-,he⟩ := List.mem_map.1 hm
 exact hb i he
theorem MSb.move (h : MSb k w v s) (I : List Nat) (hk : Keep (I.map (k.M v)) w w1) (v' : MV) (s' : MP)
  (hM : ∀ i b,k.M v' i = some b → k.M v i = some b ∨ w.heap.size ≤ b) (hN : ∀ i j b,w.heap.size ≤ b → k.M v' i = some b → k.M v' j = some b → i = j)
  (c0 : (v'.ve = v.ve ∧ v'.vrd = v.vrd ∧ v'.vt = v.vt) ∧ 0 ∉ I ∨ w1.heap[k.gC]? = some (.cells #[v'.ve,v'.vrd,v'.vt,k.vl] 97 (0,0)))
  (c2 : (v'.ve = v.ve ∧ s'.el = s.el) ∧ 2 ∉ I ∨ Own (k.gc + 1) 3 1 (dInt .i64) w1 v'.ve s'.el)
  (c3 : (v'.vrd = v.vrd ∧ s'.rounds = s.rounds) ∧ 3 ∉ I ∨ Own (k.gc + 1) 58 6 (dRnd (k.R w1 v')) w1 v'.vrd s'.rounds)
  (c4 : (v'.vt = v.vt ∧ s'.ties = s.ties) ∧ 4 ∉ I ∨ Own (k.gc + 1) 115 2 (dTie (k.R w1 v')) w1 v'.vt s'.ties)
  (c5 : (v'.vk = v.vk ∧ s'.K = s.K) ∧ 5 ∉ I ∨ Own (k.gc + 1) 3 1 (dInt .i64) w1 v'.vk s'.K)
  (c6 : (v'.vL = v.vL ∧ s'.inn = s.inn) ∧ 6 ∉ I ∨ Own k.lo 3 1 (dInt .i64) w1 v'.vL s'.inn)
  (c7 : (v'.vh = v.vh ∧ s'.had = s.had) ∧ 7 ∉ I ∨ Own (k.gc + 1) 3 1 (dInt .i64) w1 v'.vh s'.had)
  (c8 : (v'.vr = v.vr ∧ s'.re = s.re) ∧ 8 ∉ I ∨ Own (k.gc + 1) 3 1 (dInt .i64) w1 v'.vr s'.re)
  (c9 : v'.vo = v.vo ∧ s'.ro = s.ro ∨ RInts (k.R w1 v') w1 v'.vo s'.ro) : MSb k w1 v' s' := by
 have hz := hk.size
 have up : ∀ b,k.R w v b → k.R w1 v' b := fun b ⟨h1,h2,h3⟩ => ⟨h1,by omega,fun i hi => by
  rcases hM i b hi with e | e
  ·exact h3 i e
  ·omega⟩
 have upT : ∀ b,k.T w v b → k.T w1 v' b := fun b ⟨h2,h3⟩ => ⟨by omega,fun i hi => by
  rcases hM i b hi with e | e
  ·exact h3 i e
  ·omega⟩
 have outR : ∀ b,k.R w v b → some b ∉ I.map (k.M v) := fun b hb => MSb.free hb.2.2
 have ints : ∀ {base : Nat} {u : Value} {l : List Int} (j : Nat),Own base 3 1 (dInt .i64) w u l → (∀ b,u.ownBlock = some b → k.M v j = some b) → j ∉ I → Own base 3 1 (dInt .i64) w1 u l := fun j ho hu hj =>
  hk.own (S := fun _ => False) (dInt.stable _ _) ho (fun b hb => h.out hj b (hu b hb)) (fun _ h => h.elim)
 refine ⟨?_,?_,?_,?_,?_,?_,?_,?_,?_,?_,?_,?_,?_,?_,h.l1,h.l2⟩
 ·rcases c0 with ⟨⟨e1, e2, e3⟩, hi⟩ | c
  ·rw [e1,e2,e3];exact hk.box h.bC (h.out hi _ rfl)
  ·exact c
 ·have := h.gl;omega
 ·rcases c2 with ⟨⟨e1, e2⟩, hi⟩ | c
  ·rw [e1,e2];exact ints 2 h.oe (fun b hb => hb) hi
  ·exact c
 ·rcases c3 with ⟨⟨e1, e2⟩, hi⟩ | c
  ·rw [e1,e2];exact Own.dmono (fun _ _ hd => dRnd.mono up hd) (hk.own (dRnd.stable _) h.ord (fun b hb => h.out hi b hb) outR)
  ·exact c
 ·rcases c4 with ⟨⟨e1, e2⟩, hi⟩ | c
  ·rw [e1,e2];exact Own.dmono (fun _ _ hd => dTie.mono up hd) (hk.own (dTie.stable _) h.ot (fun b hb => h.out hi b hb) outR)
  ·exact c
 ·rcases c5 with ⟨⟨e1, e2⟩, hi⟩ | c
  ·rw [e1,e2];exact ints 5 h.ok (fun b hb => hb) hi
  ·exact c
 ·rcases c6 with ⟨⟨e1, e2⟩, hi⟩ | c
  ·rw [e1,e2];exact ints 6 h.oL (fun b hb => hb) hi
  ·exact c
 ·rcases c7 with ⟨⟨e1, e2⟩, hi⟩ | c
  ·rw [e1,e2];exact ints 7 h.oh (fun b hb => hb) hi
  ·exact c
 ·rcases c8 with ⟨⟨e1, e2⟩, hi⟩ | c
  ·rw [e1,e2];exact ints 8 h.or (fun b hb => hb) hi
  ·exact c
 ·rcases c9 with ⟨e1, e2⟩ | c
  ·rw [e1,e2];exact (hk.rints h.oo outR).mono up
  ·exact c
 ·intro i j b hi hj
  rcases hM i b hi with e | e
  ·rcases hM j b hj with e2 | e2
   ·exact h.ap i j b e e2
   ·have := (h.low i b e).2;omega
  ·exact hN i j b e hi hj
 ·exact (hk.rints h.lot (fun b hb => MSb.free hb.2)).mono upT
 ·exact RSl.same (dRow.stable _) (hk.same fun b hb hm => by
   obtain ⟨i,-,he⟩ := List.mem_map.1 hm
   have := (h.low i b he).1
   omega) h.rows
 ·intro b o hx
  obtain ⟨h1,h2⟩ := h.bx b o hx
  refine ⟨hk.box h1 (MSb.free h2),fun i hi => ?_⟩
  rcases hM i b hi with e | e
  ·exact h2 i e
  ·have := qa0 h1;omega
theorem MSb.below (h : MSb k w v s) (hb : Below w.heap.size w w1) : MSb k w1 v s :=
 h.move [] (Keep.of_below hb) v s (fun _ _ h => .inl h) (fun i j b hb hi _ => by have := (h.low i b hi).2;omega)
  (.inl ⟨⟨rfl,rfl,rfl⟩,List.not_mem_nil⟩) (.inl ⟨⟨rfl,rfl⟩,List.not_mem_nil⟩) (.inl ⟨⟨rfl,rfl⟩,List.not_mem_nil⟩) (.inl ⟨⟨rfl,rfl⟩,List.not_mem_nil⟩) (.inl ⟨⟨rfl,rfl⟩,List.not_mem_nil⟩) (.inl ⟨⟨rfl,rfl⟩,List.not_mem_nil⟩) (.inl ⟨⟨rfl,rfl⟩,List.not_mem_nil⟩) (.inl ⟨⟨rfl,rfl⟩,List.not_mem_nil⟩) (.inl ⟨rfl,rfl⟩)
theorem MSb.own (h : MSb k w v s) (hk : Keep [some k.gc] w w1) (s' : MP) (e1 : s'.el = s.el) (e2 : s'.rounds = s.rounds) (e3 : s'.ties = s.ties) (e4 : s'.K = s.K) (e5 : s'.inn = s.inn) (e6 : s'.had = s.had) (e7 : s'.re = s.re) (e8 : s'.ro = s.ro) : MSb k w1 v s' :=
 h.move [1] hk v s' (fun _ _ h => .inl h) (fun i j b hb hi _ => by have := (h.low i b hi).2;omega)
  (.inl ⟨⟨rfl,rfl,rfl⟩,by decide⟩) (.inl ⟨⟨rfl,e1⟩,by decide⟩) (.inl ⟨⟨rfl,e2⟩,by decide⟩) (.inl ⟨⟨rfl,e3⟩,by decide⟩) (.inl ⟨⟨rfl,e4⟩,by decide⟩) (.inl ⟨⟨rfl,e5⟩,by decide⟩) (.inl ⟨⟨rfl,e6⟩,by decide⟩) (.inl ⟨⟨rfl,e7⟩,by decide⟩) (.inl ⟨rfl,e8⟩)
end
def MCn.cellsR (k : MCn) (v : MV) (s : MP) (c12 c13 c14 c15 c16 c17 : Value) : Array Value := #[.pointer (some ⟨k.gC,0,none⟩),.int .i64 k.p.cands,.int .u8 k.p.kind,k.vp,.int .i64 k.seats,.int .i64 k.votes,v.vk,v.vL,.int .i64 s.turns,v.vh,.int .i64 s.lost,.int .i64 s.quota,c12,c13,c14,c15,c16,c17]
def MSo (k : MCn) (w : World) (v : MV) (s : MP) : Prop := MSb k w v s ∧ ∃ c12 c13 c14 c15 c16 c17,w.heap[k.gc]? = some (.cells (k.cellsR v s c12 c13 c14 c15 c16 c17) 110 (0,0))
end

section
open Go Go.RowKit Go.Shelf Limb

section
variable {k : MCn} {w w1 : World} {v v' : MV} {s s' : MP}
theorem MSt.keeps (h : MSt k w v s) {vk' : Value} {K' : List Int} (hO : Own (k.gc + 1) 3 1 (dInt .i64) w1 vk' K') (hg : w.grownBy w1 v.vk.ownBlock) (hm : Mv w v.vk vk') :
  MSt k (w1.setCell ⟨k.gc,6,none⟩ vk') { v with vk := vk' } { s with K := K' } ∧ Keep ([1,5].map (k.M v)) w (w1.setCell ⟨k.gc,6,none⟩ vk') := by
 have hk1 : Keep ([5].map (k.M v)) w w1 := Keep.of_grown hg
 have hk : Keep ([1,5].map (k.M v)) w (w1.setCell ⟨k.gc,6,none⟩ vk') := Keep.set hk1 _ _ _
 have hC := hk1.box h.bc (h.out (j := 1) (by decide) _ rfl)
 obtain ⟨hM,hN⟩ := h.moved (v' := { v with vk := vk' }) 5 (by
  intro i hi
  rcases i with _ | _ | _ | _ | _ | _ | _ | _ | _ | i <;> first | rfl | exact absurd rfl hi) hm.to
 refine ⟨h.move [1,5] hk { v with vk := vk' } { s with K := K' } hM hN (.inl ⟨⟨rfl,rfl,rfl⟩,by decide⟩) (.inr (by rw [qa2 hC];rfl)) (.inl ⟨⟨rfl,rfl⟩,by decide⟩) (.inl ⟨⟨rfl,rfl⟩,by decide⟩) (.inl ⟨⟨rfl,rfl⟩,by decide⟩) (.inr ?_) (.inl ⟨⟨rfl,rfl⟩,by decide⟩) (.inl ⟨⟨rfl,rfl⟩,by decide⟩) (.inl ⟨⟨rfl,rfl⟩,by decide⟩) (.inl ⟨rfl,rfl⟩),hk⟩
 exact Own.setCell (S := fun _ => False) (dInt.stable _ _) hO (p := ⟨k.gc,6,none⟩) (by dsimp only;omega) (fun h => h) _
theorem MSt.withX (h : MSt k w v s) (X : Nat → Obj → Prop) (hX : ∀ b o,X b o → w.heap[b]? = some o ∧ ∀ i,k.M v i ≠ some b) : MSt { k with X := X } w v s :=
 ⟨h.bC,h.bc,h.oe,h.ord,h.ot,h.ok,h.oL,h.oh,h.or,h.oo,h.ap,h.lot,h.rows,hX,h.l1,h.l2⟩
theorem MSt.o (h : MSt k w v s) : MSo k w v s := ⟨h.b,_,_,_,_,_,_,h.bc⟩
theorem MSo.start (h : MSo k w v s) (hr : v.vr = .slice none 0 0) (ho : v.vo = .slice none 0 0) :
  MSt k (((((((w.setCell ⟨k.gc,8,none⟩ (.int .i64 0)).setCell ⟨k.gc,12,none⟩ (.slice none 0 0)).setCell ⟨k.gc,13,none⟩ (.bool false)).setCell ⟨k.gc,14,none⟩ (.slice none 0 0)).setCell ⟨k.gc,15,none⟩ (.slice none 0 0)).setCell ⟨k.gc,16,none⟩ (.slice none 0 0)).setCell ⟨k.gc,17,none⟩ (.slice none 0 0)) v { s with turns := 0 } ∧
  Below k.lo w (((((((w.setCell ⟨k.gc,8,none⟩ (.int .i64 0)).setCell ⟨k.gc,12,none⟩ (.slice none 0 0)).setCell ⟨k.gc,13,none⟩ (.bool false)).setCell ⟨k.gc,14,none⟩ (.slice none 0 0)).setCell ⟨k.gc,15,none⟩ (.slice none 0 0)).setCell ⟨k.gc,16,none⟩ (.slice none 0 0)).setCell ⟨k.gc,17,none⟩ (.slice none 0 0)) := by
 obtain ⟨hb,c12,c13,c14,c15,c16,c17,hg⟩ := h
 have hin : some k.gc ∈ [some k.gc] ∨ w.heap.size ≤ k.gc := .inl (List.mem_singleton.2 rfl)
 have hk := ((((((((Keep.refl [some k.gc] w).setIn k.gc 8 (.int .i64 0) hin).setIn k.gc 12 (.slice none 0 0) hin).setIn k.gc 13 (.bool false) hin).setIn k.gc 14 (.slice none 0 0) hin).setIn k.gc 15 (.slice none 0 0) hin).setIn k.gc 16 (.slice none 0 0) hin).setIn k.gc 17 (.slice none 0 0) hin)
 have l1 := hb.l1
 have l2 := hb.l2
 refine ⟨(hb.own hk { s with turns := 0 } rfl rfl rfl rfl rfl rfl rfl rfl).t ?_,hk.below (fun b hb2 hm => by have := Option.some.inj (List.mem_singleton.1 hm);omega) (by have := hb.big;omega)⟩
 rw [qa2 (qa2 (qa2 (qa2 (qa2 (qa2 (qa2 hg _) _) _) _) _) _) _]
 simp [MCn.cellsR,MCn.cells,hr,ho]
theorem MSb.bare (h : MSb k w v s) (hl : s.re.length ≤ 1000000) :
  MSb k w { v with vr := .slice none 0 0,vo := .slice none 0 0 } { s with re := [],ro := [] } ∧ RInts (k.R w { v with vr := .slice none 0 0,vo := .slice none 0 0 }) w v.vr s.re ∧ RInts (k.R w { v with vr := .slice none 0 0,vo := .slice none 0 0 }) w v.vo s.ro := by
 have he : ∀ i,i ≠ 8 → k.M { v with vr := .slice none 0 0,vo := .slice none 0 0 } i = k.M v i := by
  intro i hi
  rcases i with _ | _ | _ | _ | _ | _ | _ | _ | _ | i <;> first | rfl | exact absurd rfl hi
 have h8 : ∀ b,k.M { v with vr := .slice none 0 0,vo := .slice none 0 0 } 8 ≠ some b := fun b e => by cases e
 have hM : ∀ i b,k.M { v with vr := .slice none 0 0,vo := .slice none 0 0 } i = some b → k.M v i = some b := fun i b hi => by
  by_cases e : i = 8
  ·subst e;exact absurd hi (h8 b)
  ·rw [← he i e];exact hi
 refine ⟨h.move [] (Keep.refl _ _) _ _ (fun i b hi => .inl (hM i b hi)) (fun i j b hb hi _ => by have := (h.low i b (hM i b hi)).2;omega)
  (.inl ⟨⟨rfl,rfl,rfl⟩,List.not_mem_nil⟩) (.inl ⟨⟨rfl,rfl⟩,List.not_mem_nil⟩) (.inl ⟨⟨rfl,rfl⟩,List.not_mem_nil⟩) (.inl ⟨⟨rfl,rfl⟩,List.not_mem_nil⟩) (.inl ⟨⟨rfl,rfl⟩,List.not_mem_nil⟩) (.inl ⟨⟨rfl,rfl⟩,List.not_mem_nil⟩) (.inl ⟨⟨rfl,rfl⟩,List.not_mem_nil⟩) (.inr (Own.nil _ _ _ _ _)) (.inr RSl.nil),?_,?_⟩
 ·refine RInts.mono (fun b hb => ?_) (Own.rslo h.or (by omega))
  have h1 := Own.lt h.or b hb
  refine ⟨h1.1,h1.2,fun i hi => ?_⟩
  by_cases e : i = 8
  ·subst e;exact h8 b hi
  ·exact e (h.ap i 8 b (hM i b hi) hb)
 ·exact h.oo.mono fun b hb => ⟨hb.1,hb.2.1,fun i hi => hb.2.2 i (hM i b hi)⟩
theorem MSb.rounded (h : MSb k w v s) {vrd' : Value} {rounds' : List Rnd} (hO : Own (k.gc + 1) 58 6 (dRnd (k.R w v)) w1 vrd' rounds') (hg : w.grownBy w1 v.vrd.ownBlock) (hm : Mv w v.vrd vrd') :
  MSb k (w1.setCell ⟨k.gC,1,none⟩ vrd') { v with vrd := vrd' } { s with rounds := rounds' } ∧ Keep ([0,3].map (k.M v)) w (w1.setCell ⟨k.gC,1,none⟩ vrd') := by
 have hk1 : Keep ([3].map (k.M v)) w w1 := Keep.of_grown hg
 have hk : Keep ([0,3].map (k.M v)) w (w1.setCell ⟨k.gC,1,none⟩ vrd') := Keep.set hk1 _ _ _
 have hC := hk1.box h.bC (h.out (j := 0) (by decide) _ rfl)
 have l2 := h.l2
 have he : ∀ i,i ≠ 3 → k.M { v with vrd := vrd' } i = k.M v i := by
  intro i hi
  rcases i with _ | _ | _ | _ | _ | _ | _ | _ | _ | i <;> first | rfl | exact absurd rfl hi
 have key : ∀ i b,w.heap.size ≤ b → k.M { v with vrd := vrd' } i = some b → i = 3 := fun i b hb hi => by
  by_cases e : i = 3
  ·exact e
  ·rw [he i e] at hi
   have := (h.low i b hi).2
   omega
 have hM : ∀ i b,k.M { v with vrd := vrd' } i = some b → k.M v i = some b ∨ w.heap.size ≤ b := fun i b hi => by
  by_cases e : i = 3
  ·subst e;exact hm.to b hi
  ·exact .inl (he i e ▸ hi)
 refine ⟨h.move [0,3] hk { v with vrd := vrd' } { s with rounds := rounds' } hM (fun i j b hb h1 h2 => (key i b hb h1).trans (key j b hb h2).symm) (.inr (by rw [qa2 hC];rfl)) (.inl ⟨⟨rfl,rfl⟩,by decide⟩) (.inr ?_) (.inl ⟨⟨rfl,rfl⟩,by decide⟩) (.inl ⟨⟨rfl,rfl⟩,by decide⟩) (.inl ⟨⟨rfl,rfl⟩,by decide⟩) (.inl ⟨⟨rfl,rfl⟩,by decide⟩) (.inl ⟨⟨rfl,rfl⟩,by decide⟩) (.inl ⟨rfl,rfl⟩),hk⟩
 have hz := hk.size
 refine Own.dmono (fun _ _ hd => dRnd.mono (fun b hb => ?_) hd) (Own.setCell (dRnd.stable _) hO (p := ⟨k.gC,1,none⟩) (by dsimp only;omega) (fun hb => by have := hb.1;dsimp only at this;omega) _)
 exact ⟨hb.1,by have := hb.2.1;omega,fun i hi => by
  rcases hM i b hi with e | e
  ·exact hb.2.2 i e
  ·have := hb.2.1;omega⟩
theorem MSb.boxes (h : MSb k w v s) {o : Obj} (hg : w.heap[k.gc]? = some o) (hw : w.grownBy w1 v.vrd.ownBlock) : w1.heap[k.gC]? = some (.cells #[v.ve,v.vrd,v.vt,k.vl] 97 (0,0)) ∧ w1.heap[k.gc]? = some o := by
 have hk : Keep ([3].map (k.M v)) w w1 := Keep.of_grown hw
 exact ⟨hk.box h.bC (h.out (j := 0) (by decide) _ rfl),hk.box hg (h.out (j := 1) (by decide) _ rfl)⟩
theorem MSb.outc (h : MSb k w v s) (h1 : s.el.length ≤ 1000) (h2 : s.rounds.length ≤ 1000) (h3 : s.ties.length ≤ 1000) : VOutc (From (k.gc + 1)) w (.agg #[v.ve,v.vrd,v.vt]) ⟨s.el,s.rounds,s.ties⟩ :=
 ⟨_,_,_,rfl,Own.rsl h.oe (by dsimp only;omega),RSl.mono (fun _ _ _ hd => dRnd.mono (fun _ hb => hb.1) hd) (fun _ h => h) (Own.rsl h.ord (by dsimp only;omega)),RSl.mono (fun _ _ _ hd => dTie.mono (fun _ hb => hb.1) hd) (fun _ h => h) (Own.rsl h.ot (by dsimp only;omega))⟩
def RndE (k : MCn) (v : MV) (s : MP) (w1 : World) (had : List Int) (lost : Int) (wc : World) : Prop := ∃ vh vn vd,MSb k wc v s ∧ wc.heap[k.gc]? = some (.cells (k.cellsR v s vh (.bool false) vn vd v.vr v.vo) 110 (0,0)) ∧ RRts (k.R wc v) wc vh (had.map bill) ∧ RU (k.R wc v) wc vn (bill lost).num ∧ RU (k.R wc v) wc vd (bill lost).den ∧ Below k.lo w1 wc
theorem RndE.mk {X W3 W6 : World} {lo3 lo6 : Nat} {had : List Int} {lost : Int} {vh vn vd : Value} (h : MSt k w1 v s) (hX : Below w1.heap.size w1 X) (o3 : OwnX lo3 56 3 dRt W3 vh (had.map bill)) (e3 : Below W3.heap.size W3 X) (y3 : w1.heap.size ≤ lo3) (l3 : had.length ≤ 1000000)
  (r1 : RU (fun b => lo6 ≤ b ∧ b < W6.heap.size) W6 vn (bill lost).num) (r2 : RU (fun b => lo6 ≤ b ∧ b < W6.heap.size) W6 vd (bill lost).den) (e6 : Below W6.heap.size W6 X) (y6 : w1.heap.size ≤ lo6) :
  RndE k v s w1 had lost ((((X.setCell ⟨k.gc,12,none⟩ vh).setCell ⟨k.gc,13,none⟩ (.bool false)).setCell ⟨k.gc,14,none⟩ vn).setCell ⟨k.gc,15,none⟩ vd) := by
 have hX1 := h.below hX
 have hin : some k.gc ∈ [some k.gc] ∨ X.heap.size ≤ k.gc := .inl (List.mem_singleton.2 rfl)
 have hk := ((((Keep.refl [some k.gc] X).setIn k.gc 12 vh hin).setIn k.gc 13 (.bool false) hin).setIn k.gc 14 vn hin).setIn k.gc 15 vd hin
 obtain ⟨wc,hwc⟩ : ∃ W,W = (((X.setCell ⟨k.gc,12,none⟩ vh).setCell ⟨k.gc,13,none⟩ (.bool false)).setCell ⟨k.gc,14,none⟩ vn).setCell ⟨k.gc,15,none⟩ vd := ⟨_,rfl⟩
 have hg : wc.heap[k.gc]? = some (.cells (k.cellsR v s vh (.bool false) vn vd v.vr v.vo) 110 (0,0)) := by
  rw [hwc,qa2 (qa2 (qa2 (qa2 hX1.bc _) _) _) _];rfl
 rw [← hwc] at hk ⊢
 have l1 := h.l1
 have l2 := h.l2
 have hbg := h.big
 have hz := hk.size
 have up : ∀ {lo : Nat} {W : World},w1.heap.size ≤ lo → Below W.heap.size W X → ∀ b,lo ≤ b ∧ b < W.heap.size → k.R wc v b := fun hy he b hb => ⟨by omega,by have := he.size;omega,fun i hi => by have := (h.low i b hi).2;omega⟩
 have sx : ∀ T : Nat → Prop,(∀ b,T b → k.R wc v b) → Same T X wc := fun T hT => hk.same fun b hb hm => by
  have := (hT b hb).1
  have := Option.some.inj (List.mem_singleton.1 hm)
  omega
 have k3 : RRts (k.R wc v) W3 vh (had.map bill) := RSl.mono (fun _ _ _ hd => dRt.mono (up y3 e3) hd) (fun b hb => up y3 e3 b hb) (OwnX.rsl famRt (by omega) o3 (by rw [List.length_map];omega))
 exact ⟨vh,vn,vd,hX1.b.own hk s rfl rfl rfl rfl rfl rfl rfl rfl,hg,(k3.same (.of_below e3)).same (sx _ fun _ h => h),((r1.mono (up y6 e6)).same (.of_below e6)).same (sx _ fun _ h => h),((r2.mono (up y6 e6)).same (.of_below e6)).same (sx _ fun _ h => h),
  (hX.mono (by omega)).trans (hk.below (fun b hb hm => by have := Option.some.inj (List.mem_singleton.1 hm);omega) (by have := hX.size;omega))⟩
end
theorem MSt.begin {lo gC C : Nat} {p : Prof} {sn V : Int} {vp vl vL : Value} {lot : List Int} {w3 w4 w5 : World} (hl : lo ≤ gC) (hg : w3.heap[gC]? = some (.cells #[.slice none 0 0,.slice none 0 0,.slice none 0 0,vl] 97 (0,0))) (hr : RInts (fun b => lo ≤ b ∧ b < gC) w3 vl lot) (hs : gC + 1 = w3.heap.size)
  (hb4 : Below w3.heap.size w3 w4) (hL : Own w3.heap.size 3 1 (dInt .i64) w4 vL (rngI C))
  (hb5 : Below (w4.alloc (.cells #[.pointer (some ⟨gC,0,none⟩),.int .i64 p.cands,.int .u8 p.kind,vp,.int .i64 sn,.int .i64 0,.slice none 0 0,vL,.int .i64 0,.slice none 0 0,.int .i64 0,.int .i64 0,.slice none 0 0,.bool false,.slice none 0 0,.slice none 0 0,.slice none 0 0,.slice none 0 0] 110)).heap.size (w4.alloc (.cells #[.pointer (some ⟨gC,0,none⟩),.int .i64 p.cands,.int .u8 p.kind,vp,.int .i64 sn,.int .i64 0,.slice none 0 0,vL,.int .i64 0,.slice none 0 0,.int .i64 0,.int .i64 0,.slice none 0 0,.bool false,.slice none 0 0,.slice none 0 0,.slice none 0 0,.slice none 0 0] 110)) w5)
  (hR : RRows (fun b => b < lo) w5 vp p.rows) :
  MSt ⟨lo,gC,w4.heap.size,p,vp,sn,V,lot,vl,fun _ _ => False⟩ (w5.setCell ⟨w4.heap.size,5,none⟩ (.int .i64 V)) ⟨.slice none 0 0,.slice none 0 0,.slice none 0 0,.slice none 0 0,vL,.slice none 0 0,.slice none 0 0,.slice none 0 0⟩ ⟨[],rngI C,[],[],[],[],0,0,0,[],[]⟩ := by
 have hz4 := hb4.size
 have hz5 := hb5.size
 rw [World.size_alloc] at hz5
 have bW := bt (qa1 w4 _) hb5
 have b5 := bt hb4 bW
 have hk : Keep [some w4.heap.size] w5 (w5.setCell ⟨w4.heap.size,5,none⟩ (.int .i64 V)) := (Keep.refl _ w5).setIn _ _ _ (.inl (by simp))
 have hbox := qa2 (qax hb5 (qa8 w4 _)) (o := 5) (.int .i64 V)
 have hLl := Own.lt hL
 have hLb : Own w3.heap.size 3 1 (dInt .i64) (w5.setCell ⟨w4.heap.size,5,none⟩ (.int .i64 V)) vL (rngI C) := hk.own (S := fun _ => False) (dInt.stable _ _) (Own.below (S := fun _ => False) (dInt.stable _ _) hL bW) (fun b hb hm => by
  have := hLl b hb
  have := Option.some.inj (List.mem_singleton.1 hm)
  omega) (fun _ h => h.elim)
 have hap : ∀ i b,MCn.M ⟨lo,gC,w4.heap.size,p,vp,sn,V,lot,vl,fun _ _ => False⟩ ⟨.slice none 0 0,.slice none 0 0,.slice none 0 0,.slice none 0 0,vL,.slice none 0 0,.slice none 0 0,.slice none 0 0⟩ i = some b → i = 0 ∧ b = gC ∨ i = 1 ∧ b = w4.heap.size ∨ i = 6 ∧ w3.heap.size ≤ b ∧ b < w4.heap.size := fun i b hi => by
  match i,hi with
  | 0,hi => cases hi;exact .inl ⟨rfl,rfl⟩
  | 1,hi => cases hi;exact .inr (.inl ⟨rfl,rfl⟩)
  | 2,hi => cases hi
  | 3,hi => cases hi
  | 4,hi => cases hi
  | 5,hi => cases hi
  | 6,hi => exact .inr (.inr ⟨rfl,hLl b hi⟩)
  | 7,hi => cases hi
  | 8,hi => cases hi
  | n + 9,hi => cases hi
 refine ⟨hk.box (qax b5 hg) (by simp;omega),hbox,Own.nil _ _ _ _ _,Own.nil _ _ _ _ _,Own.nil _ _ _ _ _,Own.nil _ _ _ _ _,Own.rebase hLb (by dsimp only;omega),Own.nil _ _ _ _ _,Own.nil _ _ _ _ _,RSl.nil,?_,?_,?_,fun _ _ h => h.elim,hl,by dsimp only;omega⟩
 ·intro i j b hi hj
  have h1 := hap i b hi
  have h2 := hap j b hj
  omega
 ·refine RInts.mono (fun b hb => ?_) (hk.rints (hr.same (.of_below b5)) (fun b hb hm => by
   have := Option.some.inj (List.mem_singleton.1 hm)
   have := hb.2
   omega))
  refine ⟨by rw [qai];have := hb.2;omega,fun i hi => ?_⟩
  have := hap i b hi
  have := hb.2
  omega
 ·exact RSl.same (dRow.stable _) (hk.same fun b hb hm => by
   have := Option.some.inj (List.mem_singleton.1 hm)
   have hb : b < lo := hb
   omega) hR
end

section
open Go Go.RowKit Go.Shelf Limb

theorem MOk.turned {k : MCn} {C sn : Nat} {s : MP} {g : Sq (List Int)} (hF : RankF k.p k.seats k.lot C sn) (hI : SqI C sn g) (hK : KInv C s.K) (e1 : s.inn = g.inn) (e2 : s.el = g.el) (e3 : s.ties = g.ties) (e4 : s.re = []) : MOk k C (s.turned C sn k.p.rows) := by
 have hc := hF.c10
 have ht := hI.ties
 refine ⟨hc.2,hF.lot,?_,?_,?_,?_,?_,?_,qae _ _,fun x hx => ?_,hF.quoL hK.ok,hK⟩
 ·show ∀ x ∈ s.inn,_;rw [e1];exact hI.rng
 ·show s.inn.Pairwise _;rw [e1];exact hI.asc
 ·show ∀ x ∈ s.el,_;rw [e2];exact hI.els
 ·show s.el.Nodup;rw [e2];exact hI.elnd
 ·show s.re.length ≤ 10;rw [e4];simp
 ·show s.ties.length ≤ 10;rw [e3];omega
 ·obtain ⟨i, hi, rfl⟩ := List.getElem_of_mem hx
  have hi2 : i < C := by rw [show (s.turned C sn k.p.rows).had = fl C _ from rfl,qae] at hi;exact hi
  have := hF.hadM hK.ok (x := (i : Int)) ⟨by omega,by omega⟩
  have hv := hF.votes
  rw [show (s.turned C sn k.p.rows).had[i] = hadM k.p.rows s.K (i : Int) from fl_get _]
  omega
structure MRel (g : Sq (List Int)) (s : MP) : Prop where
 inn : s.inn = g.inn
 el : s.el = g.el
 re : s.re = []
 ro : s.ro = []
 rounds : s.rounds = g.rounds
 ties : s.ties = g.ties
structure REnd (R : Rule (List Int)) (g g1 : Sq (List Int)) (s : MP) : Prop where
 K : s.K = g1.st
 inn : s.inn = g1.inn
 el : s.el = g1.el
 ties : s.ties = g1.ties
 rounds : s.rounds = g.rounds
 had : s.had = g.had R
 lost : s.lost = g.lost R
 new : g1.rounds = g.rounds ++ [g.rnd R s.re s.ro]
section
variable {C sn : Nat} {rows : List Row} {lot : List Int} {g : Sq (List Int)} {s : MP}
theorem REnd.fill (hlo : LotOf lot C) (hI : SqI C sn g) (hr : MRel g s) (hK : s.K = g.st) (hf : g.inn.length + g.el.length ≤ sn) : REnd (meeR C sn rows) g (step (meeR C sn rows) sn lot g) ((s.turned C sn rows).filled (fillS (s.turned C sn rows).had lot (s.turned C sn rows).inn (s.turned C sn rows).inn.length)) := by
 obtain ⟨r1,r2,r3,r4,r5,r6⟩ := hr
 have hc : convS C sn rows g.st g.inn g.el = g.st := by rw [convS,if_pos hf]
 have hh : g.had (meeR C sn rows) = hadMs C rows s.K := by rw [hK];show hadMs C rows (convS C sn rows g.st g.inn g.el) = _;rw [hc]
 have hl : g.lost (meeR C sn rows) = lostM rows s.K := by rw [hK];show lostM rows (convS C sn rows g.st g.inn g.el) = _;rw [hc]
 have e : (s.turned C sn rows).inn = g.inn := r1
 have e2 : (s.turned C sn rows).had = g.had (meeR C sn rows) := hh.symm
 have hff : fillS (s.turned C sn rows).had lot (s.turned C sn rows).inn (s.turned C sn rows).inn.length = g.fill (meeR C sn rows) lot := by rw [e,e2];rfl
 rw [hff]
 have hF := fill_all (had := g.had (meeR C sn rows)) hlo hI.rng (qaz hI.asc)
 refine ⟨?_,?_,?_,?_,r5,hh.symm,hl.symm,?_⟩
 ·unfold step;rw [if_pos hf];exact hK
 ·unfold step;rw [if_pos hf];exact hF
 ·unfold step;rw [if_pos hf];show s.el ++ _ = _;rw [r2]
 ·unfold step;rw [if_pos hf];show s.ties ++ _ = _;rw [r6]
 ·unfold step;rw [if_pos hf];show _ = g.rounds ++ [g.rnd _ (s.re ++ _) s.ro];rw [r3,r4];rfl
theorem REnd.reach (hr : MRel g s) (hK : s.K = convS C sn rows g.st g.inn g.el) (hf : ¬ g.inn.length + g.el.length ≤ sn) (hb : reachB C sn rows g.inn s.K = true) : REnd (meeR C sn rows) g (step (meeR C sn rows) sn lot g) ((s.turned C sn rows).elect (bestL (gI (s.turned C sn rows).had) (s.turned C sn rows).inn) (firstL lot (bestL (gI (s.turned C sn rows).had) (s.turned C sn rows).inn))) := by
 obtain ⟨r1,r2,r3,r4,r5,r6⟩ := hr
 have hh : g.had (meeR C sn rows) = hadMs C rows s.K := by rw [hK];rfl
 have hl : g.lost (meeR C sn rows) = lostM rows s.K := by rw [hK];rfl
 have e : (s.turned C sn rows).inn = g.inn := r1
 have e2 : (s.turned C sn rows).had = g.had (meeR C sn rows) := hh.symm
 have hb2 : g.reach (meeR C sn rows) = true := by rw [hK] at hb;exact hb
 have hbe : bestL (gI (s.turned C sn rows).had) (s.turned C sn rows).inn = g.best (meeR C sn rows) := by rw [e,e2];rfl
 rw [hbe]
 refine ⟨?_,?_,?_,?_,r5,hh.symm,hl.symm,?_⟩
 ·unfold step;rw [if_neg hf,if_pos hb2];exact hK
 ·unfold step;rw [if_neg hf,if_pos hb2];show s.inn.filter _ = _;rw [r1]
 ·unfold step;rw [if_neg hf,if_pos hb2];show s.el ++ _ = _;rw [r2]
 ·unfold step;rw [if_neg hf,if_pos hb2];show s.ties ++ _ = _;rw [r6]
 ·unfold step;rw [if_neg hf,if_pos hb2];show _ = g.rounds ++ [g.rnd _ (s.re ++ _) s.ro];rw [r3,r4];rfl
theorem REnd.drop (hr : MRel g s) (hK : s.K = convS C sn rows g.st g.inn g.el) (hf : ¬ g.inn.length + g.el.length ≤ sn) (hb : reachB C sn rows g.inn s.K = false) : REnd (meeR C sn rows) g (step (meeR C sn rows) sn lot g) ((s.turned C sn rows).drop (bestL (fun y => - gI (s.turned C sn rows).had y) (s.turned C sn rows).inn) (firstL lot.reverse (bestL (fun y => - gI (s.turned C sn rows).had y) (s.turned C sn rows).inn))) := by
 obtain ⟨r1,r2,r3,r4,r5,r6⟩ := hr
 have hh : g.had (meeR C sn rows) = hadMs C rows s.K := by rw [hK];rfl
 have hl : g.lost (meeR C sn rows) = lostM rows s.K := by rw [hK];rfl
 have e : (s.turned C sn rows).inn = g.inn := r1
 have e2 : (s.turned C sn rows).had = g.had (meeR C sn rows) := hh.symm
 have hb2 : ¬ g.reach (meeR C sn rows) = true := by rw [hK] at hb;intro h;have h' : reachB C sn rows g.inn (convS C sn rows g.st g.inn g.el) = true := h;rw [hb] at h';cases h'
 have hbe : bestL (fun y => - gI (s.turned C sn rows).had y) (s.turned C sn rows).inn = g.least (meeR C sn rows) := by rw [e,e2];rfl
 rw [hbe]
 refine ⟨?_,?_,?_,?_,r5,hh.symm,hl.symm,?_⟩
 ·unfold step;rw [if_neg hf,if_neg hb2];show s.K.set _ 0 = _;rw [hK];rfl
 ·unfold step;rw [if_neg hf,if_neg hb2];show s.inn.filter _ = _;rw [r1]
 ·unfold step;rw [if_neg hf,if_neg hb2];exact r2
 ·unfold step;rw [if_neg hf,if_neg hb2];show s.ties ++ _ = _;rw [r6]
 ·unfold step;rw [if_neg hf,if_neg hb2];show _ = g.rounds ++ [g.rnd _ s.re [_]];rw [r3]
end
theorem conv_now {C sn : Nat} {rows : List Row} {inn el K : List Int} (h : reachB C sn rows inn K = true ∨ aboveB C sn rows el K = false) : ∀ n,convK C sn rows inn el n K = K
 | 0 => rfl
 | n + 1 => by
  rw [convK,if_pos]
  rcases h with h | h
  ·rw [h,Bool.true_or]
  ·rw [h,Bool.not_false,Bool.or_true]
theorem conv_next {C sn n : Nat} {rows : List Row} {inn el K : List Int} (h1 : reachB C sn rows inn K = false) (h2 : aboveB C sn rows el K = true) : convK C sn rows inn el (n + 1) K = convK C sn rows inn el n (nextK C sn rows el K) := by
 rw [convK,if_neg (by rw [h1,h2];simp)]
theorem meeV_eq {p : Prof} {sn C : Nat} {lot : List Int} (h : rankI p (sn : Int) lot = 0) (hC : p.cands = (C : Int)) : meeV p sn lot = ⟨(meeS p sn lot C).el,(meeS p sn lot C).rounds,(meeS p sn lot C).ties⟩ := by
 rw [meeV,if_pos h,hC];simp only [Int.toNat_natCast]
set_option maxRecDepth 100000 in
set_option maxHeartbeats 2000000 in
theorem meeCount_bad (S T : Nat → Prop) (u v : Value) (p : Prof) (seats : Int) (lot : List Int) (w : World) (h : VProf S w u p) (hv : RInts T w v lot) (hlo : lot.length ≤ 1000000) (h0 : rankI p seats lot ≠ 0) :
  Calls Tryz.prog 29 #[u,.int .i64 seats,v] w (GivesE (rankI p seats lot) (meeV p seats lot) w) := by
 have h1 := h
 obtain ⟨a,cap,rfl,-,-,-⟩ := h
 obtain ⟨a2,cap2,rfl,-,-⟩ := RSl.shape hv
 rw [meeV,if_neg h0]
 obtain ⟨W2,hW2⟩ : ∃ W2,W2 = (w.alloc (.cells #[.int .i64 p.cands,.int .u8 p.kind,.slice a p.rows.length cap] 24)).alloc (.cells #[.slice none 0 0,.slice none 0 0,.slice none 0 0] 32) := ⟨_,rfl⟩
 have hb0 : Below w.heap.size w W2 := by rw [hW2];exact ((Below.refl _ _).alloc (Nat.le_refl _) _).alloc (by simp) _
 have hbo : W2.heap[w.heap.size + 1]? = some (.cells #[.slice none 0 0,.slice none 0 0,.slice none 0 0] 32 (0,0)) := by
  have := qa8 (w.alloc (.cells #[.int .i64 p.cands,.int .u8 p.kind,.slice a p.rows.length cap] 24)) (.cells #[.slice none 0 0,.slice none 0 0,.slice none 0 0] 32)
  rw [hW2]
  rwa [World.size_alloc] at this
 have hC := choCheck S T _ _ p 1 seats p.cands lot W2 (h1.same (.of_below hb0)) (hv.same (.of_below hb0)) hlo
 have hI : countI p 1 seats p.cands lot = rankI p seats lot := rfl
 obtain ⟨cc,hcc⟩ : ∃ c,p.cands = c := ⟨_,rfl⟩
 obtain ⟨kk,hkk⟩ : ∃ c,p.kind = c := ⟨_,rfl⟩
 obtain ⟨n,hn⟩ : ∃ n,p.rows.length = n := ⟨_,rfl⟩
 obtain ⟨nl,hnl⟩ : ∃ n,lot.length = n := ⟨_,rfl⟩
 obtain ⟨I,hI2⟩ : ∃ I,rankI p seats lot = I := ⟨_,rfl⟩
 rw [hI,hI2] at hC
 rw [hI2] at h0
 rw [hcc,hkk,hn,hnl] at hC
 rw [hcc,hkk,hn] at hW2
 rw [hcc,hkk,hn,hnl,hI2]
 have hne : (I != 0) = true := by simpa using h0
 rw [hW2] at hC
 have HC := Lib.hid hC;have Hbo := Lib.hid hbo;have HW2 := Lib.hid hW2;have Hb0 := Lib.hid hb0
 clear hC hbo hW2 hb0 h1 hv hcc hkk hn hnl hI hI2 hlo h0
 go_enter Tryz.func29,Tryz.ntmps29
 go_wp2_with (go_at_call 61;refine HC.out.mono ?_;rintro e w5 ⟨rfl,hb⟩;rw [← HW2.out] at hb;obtain ⟨g3,gc3,gf3⟩ := qa6 hb (qa0 Hbo.out) Hbo.out;have gc30 := gc3 0;have gc31 := gc3 1;have gc32 := gc3 2;have gf30 := gf3 0;have gf31 := gf3 1;have gf32 := gf3 2;have hlt3 : w.heap.size + 1 < w5.heap.size := qa0 g3;have K2 := Lib.hid (bt Hb0.out hb);clear hb g3)
 refine bodyPost_ret (v := .tuple #[.agg #[.slice none 0 0,.slice none 0 0,.slice none 0 0],.int .i64 I]) (by simp [results,Tryz.results29,go_sem,gc3]) rfl (GivesE.nil I ?_)
 exact ((K2.out.setCell (p := ⟨w.heap.size + 1,0,none⟩) (by simp) _).setCell (p := ⟨w.heap.size + 1,1,none⟩) (by simp) _).setCell (p := ⟨w.heap.size + 1,2,none⟩) (by simp) _
end
end Go.Proofs.YthcbkhfmdginiaaGreat
