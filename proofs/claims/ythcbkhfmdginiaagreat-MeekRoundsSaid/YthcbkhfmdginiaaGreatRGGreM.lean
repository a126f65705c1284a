/- Texts of one claim,put together: SqJ,GreJ,GreK,GreL,GreM,SolP,SolQ,SolR. -/
import Derived.Test.YthcbkhfmdginiaaGreatRGGreA
import Derived.Test.YthcbkhfmdginiaaGreatRGCho
import Derived.Test.YthcbkhfmdginiaaGreatRGOne
import Derived.Test.YthcbkhfmdginiaaGreatRGGreI

namespace Go.Proofs.YthcbkhfmdginiaaGreat
section

def gon (r : Rnd) : List Int := r.elected ++ r.out
def one (r : Rnd) : Prop := r.elected.length + r.out.length = 1
structure SqJ {σ : Type} (C seats : Nat) (s : Sq σ) : Prop where
 els : s.rounds.flatMap Rnd.elected = s.el
 nodup : (s.rounds.flatMap gon).Nodup
 rng : ∀ x ∈ s.rounds.flatMap gon,0 ≤ x ∧ x < (C : Int)
 apart : ∀ x ∈ s.inn,x ∉ s.rounds.flatMap gon
 way : s.el.length < seats → ∀ r ∈ s.rounds,one r
 last : s.el.length = seats → ∃ l r,s.rounds = l ++ [r] ∧ (∀ r' ∈ l,one r') ∧ r.elected ≠ []
 had : ∀ r ∈ s.rounds,r.had.length = C
section
variable {σ : Type} {R : Rule σ} {seats C : Nat} {lot : List Int} {s : Sq σ}
theorem nodup_snoc {l : List Int} {x : Int} (h : l.Nodup) (hx : x ∉ l) : (l ++ [x]).Nodup := by
 rw [List.nodup_append]
 exact ⟨h,by simp,fun a ha b hb e => hx (by rw [← List.mem_singleton.1 hb,← e];exact ha)⟩
theorem SqJ.step (hl : LotOf lot C) (hH : ∀ st inn el,(R.had st inn el).length = C) (h : SqI C seats s) (j : SqJ C seats s) (h2 : s.el.length < seats) : SqJ C seats (step R seats lot s) := by
 have hne := h.ne h2
 have hn := qaz h.asc
 have hw := j.way h2
 have hlen : ∀ r ∈ s.rounds ++ [s.rnd R (s.fill R lot).elected []],r.had.length = C := fun r hr => by
  rcases List.mem_append.1 hr with hr | hr
  ·exact j.had r hr
  ·rw [List.mem_singleton.1 hr,Sq.rnd,List.length_map];exact hH _ _ _
 unfold Go.Proofs.YthcbkhfmdginiaaGreat.step
 split
 ·rename_i hf
  obtain ⟨f1,f2,f3,f4,f5,f6⟩ := qb3 (had := s.had R) hl h.rng hn s.inn.length (Nat.le_refl _)
  have e : (s.fill R lot).elected = (fillS (s.had R) lot s.inn s.inn.length).elected := rfl
  refine ⟨by simp [List.flatMap_append,j.els,Sq.rnd],?_,?_,by simp,?_,fun _ => ⟨_,_,rfl,hw,?_⟩,hlen⟩
  ·simp only [List.flatMap_append, List.flatMap_cons, List.flatMap_nil, List.append_nil, gon, Sq.rnd]
   rw [List.nodup_append]
   exact ⟨j.nodup,f2,fun a ha b hb e => j.apart b (f3 b hb) (e ▸ ha)⟩
  ·intro x hx
   simp only [List.flatMap_append,List.flatMap_cons,List.flatMap_nil,List.append_nil,gon,Sq.rnd,List.mem_append] at hx
   rcases hx with hx | hx
   ·exact j.rng x hx
   ·exact h.rng x (f3 x hx)
  ·intro hc
   exfalso
   simp only [List.length_append,e,f4] at hc
   have := h.enough
   omega
  ·rw [Sq.rnd, e]
   intro hnil
   have hnil : (fillS (s.had R) lot s.inn s.inn.length).elected = [] := hnil
   rw [hnil] at f4
   exact hne (List.eq_nil_of_length_eq_zero f4.symm)
 ·split
  ·obtain ⟨k1, k2⟩ := h.pick hl (f := gI (s.had R)) hne
   have k2' : firstL lot (s.best R) ∈ s.inn := k2
   generalize firstL lot (s.best R) = x at *
   have hone : one (s.rnd R [x] []) := rfl
   have hall : ∀ r ∈ s.rounds ++ [s.rnd R [x] []],one r := fun r hr => (List.mem_append.1 hr).elim (hw r) fun hr => by rw [List.mem_singleton.1 hr];exact hone
   refine ⟨by simp [List.flatMap_append,j.els,Sq.rnd],?_,?_,?_,fun _ => hall,fun _ => ⟨_,_,rfl,hw,by simp [Sq.rnd]⟩,?_⟩
   ·simp only [List.flatMap_append, List.flatMap_cons, List.flatMap_nil, List.append_nil, gon, Sq.rnd]
    exact nodup_snoc j.nodup (j.apart x k2')
   ·intro y hy
    simp only [List.flatMap_append,List.flatMap_cons,List.flatMap_nil,List.append_nil,gon,Sq.rnd,List.mem_append,List.mem_singleton] at hy
    rcases hy with hy | rfl
    ·exact j.rng y hy
    ·exact h.rng _ k2'
   ·intro y hy hm
    obtain ⟨y1,y2⟩ := List.mem_filter.1 hy
    simp only [List.flatMap_append,List.flatMap_cons,List.flatMap_nil,List.append_nil,gon,Sq.rnd,List.mem_append,List.mem_singleton] at hm
    rcases hm with hm | rfl
    ·exact j.apart y y1 hm
    ·simp at y2
   ·intro r hr
    rcases List.mem_append.1 hr with hr | hr
    ·exact j.had r hr
    ·rw [List.mem_singleton.1 hr,Sq.rnd,List.length_map];exact hH _ _ _
  ·obtain ⟨k1, k2⟩ := h.pick (qba hl) (f := fun y => - gI (s.had R) y) hne
   have k2' : firstL lot.reverse (s.least R) ∈ s.inn := k2
   generalize firstL lot.reverse (s.least R) = x at *
   have hone : one (s.rnd R [] [x]) := rfl
   have hall : ∀ r ∈ s.rounds ++ [s.rnd R [] [x]],one r := fun r hr => (List.mem_append.1 hr).elim (hw r) fun hr => by rw [List.mem_singleton.1 hr];exact hone
   refine ⟨by simp [List.flatMap_append,j.els,Sq.rnd],?_,?_,?_,fun _ => hall,fun hc => absurd hc (by dsimp only;omega),?_⟩
   ·simp only [List.flatMap_append, List.flatMap_cons, List.flatMap_nil, List.append_nil, List.nil_append, gon, Sq.rnd]
    exact nodup_snoc j.nodup (j.apart x k2')
   ·intro y hy
    simp only [List.flatMap_append,List.flatMap_cons,List.flatMap_nil,List.append_nil,List.nil_append,gon,Sq.rnd,List.mem_append,List.mem_singleton] at hy
    rcases hy with hy | rfl
    ·exact j.rng y hy
    ·exact h.rng _ k2'
   ·intro y hy hm
    obtain ⟨y1,y2⟩ := List.mem_filter.1 hy
    simp only [List.flatMap_append,List.flatMap_cons,List.flatMap_nil,List.append_nil,List.nil_append,gon,Sq.rnd,List.mem_append,List.mem_singleton] at hm
    rcases hm with hm | rfl
    ·exact j.apart y y1 hm
    ·simp at y2
   ·intro r hr
    rcases List.mem_append.1 hr with hr | hr
    ·exact j.had r hr
    ·rw [List.mem_singleton.1 hr,Sq.rnd,List.length_map];exact hH _ _ _
end
section
variable {σ : Type} {R : Rule σ} {seats C : Nat} {lot : List Int} {s0 : σ}
theorem run_inv2 (hl : LotOf lot C) (hs : seats ≤ C) (h0 : 0 < seats) (hH : ∀ st inn el,(R.had st inn el).length = C) : ∀ k,SqJ C seats (run R seats lot s0 C k)
 | 0 => ⟨rfl,List.nodup_nil,fun x hx => absurd hx List.not_mem_nil,fun x _ => List.not_mem_nil,fun _ r hr => absurd hr List.not_mem_nil,fun h => by simp only [run,List.length_nil] at h;omega,fun r hr => absurd hr List.not_mem_nil⟩
 | k + 1 => by
  have ih := run_inv2 hl hs h0 hH k
  rw [run]
  split
  ·exact ih.step hl hH (run_inv hl hs k) (by assumption)
  ·exact ih
end
end

section
open Go Go.RowKit Go.Shelf Limb

structure RankF (p : Prof) (seats : Int) (lot : List Int) (C sn : Nat) : Prop where
 cands : p.cands = (C : Int)
 kind : p.kind = 1
 seats : seats = (sn : Int)
 c10 : 1 ≤ C ∧ C ≤ 10
 s : 1 ≤ sn ∧ sn ≤ C
 lot : LotOf lot C
 many : ∀ r ∈ p.rows,0 < r.many
 marks : ∀ r ∈ p.rows,r.marks.Nodup ∧ ∀ x ∈ r.marks,0 ≤ x ∧ x < (C : Int)
 rows : p.rows.length ≤ 64
 sum : sumR p.rows ≤ 1000000
 chk : chkP p = 0
 votes : 0 ≤ markS p.rows ∧ markS p.rows ≤ 1000000
 q : 1 ≤ greQ p sn ∧ greQ p sn ≤ 1000000000000000
theorem nodup_len {C : Nat} {l : List Int} (h : l.Nodup) (hr : ∀ x ∈ l,0 ≤ x ∧ x < (C : Int)) : l.length ≤ C := by
 have h1 : (l ++ (rngI C).filter (fun x => !l.contains x)).Nodup := by
  rw [List.nodup_append]
  refine ⟨h,(rngI_nodup C).filter _,fun a ha b hb e => ?_⟩
  subst e
  have := (List.mem_filter.1 hb).2
  simp [ha] at this
 have h2 : List.Perm (l ++ (rngI C).filter (fun x => !l.contains x)) (rngI C) := by
  refine (List.perm_ext_iff_of_nodup h1 (rngI_nodup C)).2 fun a => ?_
  rw [List.mem_append,List.mem_filter,mem_rngI]
  constructor
  ·rintro (h | h)
   ·exact hr a h
   ·exact h.1
  ·intro ha
   by_cases hl : a ∈ l
   ·exact .inl hl
   ·exact .inr ⟨ha,by simp [hl]⟩
 have h3 := h2.length_eq
 rw [List.length_append,qar] at h3
 omega
theorem rank_fine {r : Blt} {C : Nat} (hk : r.kind = 1) (h : fineB r C = true) : r.marks.Nodup ∧ ∀ x ∈ r.marks,0 ≤ x ∧ x < (C : Int) := by
 unfold fineB at h
 rw [hk,if_neg (by decide),if_neg (by decide),if_pos rfl,Bool.and_eq_true] at h
 refine ⟨by simpa [onceB] using h.2,fun x hx => ?_⟩
 obtain ⟨i,hi,rfl⟩ := List.getElem_of_mem hx
 exact inB_get h.1 i hi
theorem markS_sub {rows : List Row} (h : ∀ r ∈ rows,0 < r.many) : 0 ≤ markS rows ∧ markS rows ≤ sumR rows := by
 induction rows with
 | nil => exact ⟨Int.le_refl _,Int.le_refl _⟩
 | cons r rows ih =>
  obtain ⟨i1,i2⟩ := ih fun s hs => h s (List.mem_cons_of_mem _ hs)
  have := h r List.mem_cons_self
  have e : markS (r :: rows) = (if r.marks.isEmpty then 0 else r.many) + markS rows := by
   rw [markS,markS,List.filter_cons]
   cases r.marks <;> simp
  rw [e,sumR,List.map_cons,List.sum_cons]
  rw [sumR] at i2
  split <;> omega
theorem droop_bound {v s : Int} (h : 0 ≤ v ∧ v ≤ 1000000) (hs : 1 ≤ s) : 1 ≤ droop v s ∧ droop v s ≤ 1000000 := by
 unfold droop
 have h1 : 0 ≤ v / (s + 1) := Int.ediv_nonneg h.1 (by omega)
 rcases Int.lt_or_le v 1 with h0 | h0
 ·have : v = 0 := by omega
  subst this
  simp
 ·have h2 : v / (s + 1) < v := Int.ediv_lt_of_lt_mul (by omega) (by
   have : v * 1 < v * (s + 1) := Int.mul_lt_mul_of_pos_left (by omega) (by omega)
   omega)
  omega
theorem rankF {p : Prof} {seats : Int} {lot : List Int} (h : rankI p seats lot = 0) : ∃ C sn : Nat,RankF p seats lot C sn := by
 unfold rankI countI at h
 split at h
 ·omega
 ·rename_i h1
  simp only [not_or,Decidable.not_not] at h1
  obtain ⟨hc,hk⟩ := h1
  split at h
  ·omega
  ·rename_i h2
   simp only [not_or,Int.not_lt,Bool.not_eq_false] at h2
   obtain ⟨s1,s2,s3,hl⟩ := h2
   have hl2 := lotB_iff.1 hl
   have hV := chkP_zero.1 hc
   have hn := hV.new
   obtain ⟨C,hC⟩ : ∃ C : Nat,p.cands = (C : Int) := ⟨p.cands.toNat,by omega⟩
   obtain ⟨sn,hs⟩ : ∃ s : Nat,seats = (s : Int) := ⟨seats.toNat,by omega⟩
   have hm : ∀ r ∈ p.rows,0 < r.many := fun r hr => hV.asc.many r hr
   have hv := markS_sub hm
   have hsum := hV.sum
   have hd := droop_bound (v := markS p.rows) (s := (sn : Int)) (by omega) (by omega)
   refine ⟨C,sn,hC,hk,hs,by omega,by omega,by have := hl2.2;rwa [hC,Int.toNat_natCast] at this,hm,fun r hr => ?_,hV.rows,hV.sum,hc,by omega,?_⟩
   ·have := hV.fit r hr
    unfold checkB at this
    split at this
    ·split at this
     ·rename_i hf
      rw [hC] at hf
      exact rank_fine hk hf
     ·omega
    ·omega
   ·unfold greQ;omega
structure GInv (rows : List Row) (rv : RV) : Prop where
 rows : rv.map Prod.fst = rows
 val : ∀ p ∈ rv,0 ≤ p.2 ∧ p.2 ≤ 1000000000
theorem GInv.mem {rows : List Row} {rv : RV} (h : GInv rows rv) {p : Row × Int} (hp : p ∈ rv) : p.1 ∈ rows := by
 rw [← h.rows];exact List.mem_map.2 ⟨p,hp,rfl⟩
theorem valG_sum : ∀ {rv : RV},(∀ p ∈ rv,0 < p.1.many ∧ 0 ≤ p.2 ∧ p.2 ≤ 1000000000) → valG rv ≤ sumR (rv.map Prod.fst) * 1000000000
 | [],_ => by simp [valG,sumR]
 | p :: rv,h => by
  have ih := valG_sum (rv := rv) fun q hq => h q (List.mem_cons_of_mem _ hq)
  have hp := h p List.mem_cons_self
  have h1 : p.1.many * p.2 ≤ p.1.many * 1000000000 := Int.mul_le_mul_of_nonneg_left hp.2.2 (by omega)
  rw [valG,List.map_cons,List.sum_cons,List.map_cons,sumR,List.map_cons,List.sum_cons,Int.add_mul]
  rw [valG,sumR] at ih
  omega
theorem RankF.gval {p : Prof} {seats : Int} {lot : List Int} {C sn : Nat} (h : RankF p seats lot C sn) {rv : RV} (hv : GInv p.rows rv) : GVal C rv := by
 have h1 := valG_sum (rv := rv) fun q hq => ⟨h.many _ (hv.mem hq),hv.val q hq⟩
 rw [hv.rows] at h1
 have h2 := h.sum
 refine ⟨fun q hq => ⟨by have := h.many _ (hv.mem hq);omega,(hv.val q hq).1⟩,by omega,fun q hq => ?_,by have := congrArg List.length hv.rows;rw [List.length_map] at this;rw [this];exact h.rows⟩
 obtain ⟨m1,m2⟩ := h.marks _ (hv.mem hq)
 have := nodup_len m1 m2
 have := h.c10
 exact ⟨by omega,m2⟩
theorem pass_bound {v n Q : Int} (hv : 0 ≤ v) (hQ : 0 ≤ Q ∧ Q ≤ n) (hn : 1 ≤ n) : 0 ≤ v * (n - Q) / n ∧ v * (n - Q) / n ≤ v :=
 ⟨Int.ediv_nonneg (Int.mul_nonneg hv (by omega)) (by omega),Int.ediv_le_of_le_mul (by omega) (Int.mul_le_mul_of_nonneg_left (by omega) hv)⟩
theorem GInv.pass {rows : List Row} {rv : RV} (h : GInv rows rv) {inn : List Int} {Q x n : Int} (hQ : 0 ≤ Q ∧ Q ≤ n) (hn : 1 ≤ n) : GInv rows (rv.map (passG inn Q x n)) := by
 constructor
 ·rw [List.map_map, ← h.rows]
  apply List.map_congr_left
  intro p _
  simp only [Function.comp,passG]
  split <;> rfl
 ·intro q hq
  obtain ⟨p,hp,rfl⟩ := List.mem_map.1 hq
  have h1 := h.val p hp
  unfold passG
  split
  ·have := pass_bound h1.1 hQ hn
   dsimp only
   omega
  ·exact h1
theorem reach_first {C : Nat} {Q votes : Int} {seats : Nat} {lot : List Int} {s : Sq RV} (hl : LotOf lot C) (h : SqI C seats s) (hr : s.reach (greR C Q votes) = true) : Q ≤ gI (s.had (greR C Q votes)) (firstL lot (s.best (greR C Q votes))) := by
 have hr' : s.inn.any (fun x => decide (Q ≤ gI (greH C Q s.st s.inn s.el) x)) = true := hr
 obtain ⟨y,hy,hq⟩ := List.any_eq_true.1 hr'
 have hq := of_decide_eq_true hq
 have k := (qak.1 (h.pick hl (f := gI (s.had (greR C Q votes))) (List.ne_nil_of_mem hy)).1).2 y hy
 exact Int.le_trans hq k
theorem greS_inv {p : Prof} {seats : Int} {lot : List Int} {C sn : Nat} (h : RankF p seats lot C sn) : ∀ k,GInv p.rows (greS p sn lot k).st
 | 0 => ⟨by simp [greS, run, Function.comp_def], fun q hq => by
   simp only [greS,run] at hq
   obtain ⟨r,-,rfl⟩ := List.mem_map.1 hq
   exact ⟨by dsimp only;omega,Int.le_refl _⟩⟩
 | k + 1 => by
  have ih := greS_inv h k
  have hC : p.cands.toNat = C := by rw [h.cands,Int.toNat_natCast]
  have hI := run_inv (R := greR C (greQ p sn) (markS p.rows)) (seats := sn) (s0 := p.rows.map fun r => (r,1000000000)) h.lot h.s.2 k
  unfold greS at ih ⊢
  rw [hC] at ih ⊢
  rw [run]
  split
  ·unfold step
   split
   ·exact ih
   ·split
    ·rename_i hr
     have hq := reach_first h.lot hI hr
     have := h.q
     exact GInv.pass ih ⟨by omega,hq⟩ (Int.le_trans this.1 hq)
    ·exact ih
  ·exact ih
theorem greS_sq {p : Prof} {seats : Int} {lot : List Int} {C sn : Nat} (h : RankF p seats lot C sn) (k : Nat) : SqI C sn (greS p sn lot k) := by
 have hC : p.cands.toNat = C := by rw [h.cands,Int.toNat_natCast]
 unfold greS
 rw [hC]
 exact run_inv h.lot h.s.2 k
end

section
open Go Go.RowKit Go.Shelf Limb

structure GS0 (k : GCn) (w : World) (vr vst : Value) (rv : RV) (n : Nat) : Prop where
 bC : w.heap[k.gC]? = some (.cells #[.slice none 0 0,.slice none 0 0,.slice none 0 0,k.vl] 97 (0,0))
 bc : w.heap[k.gc]? = some (.cells #[.pointer (some ⟨k.gC,0,none⟩),vr,vst,.int .i64 k.seats,.int .i64 k.Q,.int .i64 k.votes] 91 (0,0))
 or : Own (k.gc + 1) 93 3 (dGRow fun b => b < k.lo) w vr rv
 os : Own (k.gc + 1) 153 1 dVal w vst (stL n (rngI k.C) [])
 lot : RInts (fun b => k.lo ≤ b ∧ b < k.gC) w k.vl k.lot
 l1 : k.lo ≤ k.gC
 l2 : k.gC < k.gc
section
variable {k : GCn} {w w1 : World} {vr vst vr' vst' : Value} {rv rv' : RV} {n : Nat}
theorem GS0.below (h : GS0 k w vr vst rv n) (hb : Below w.heap.size w w1) : GS0 k w1 vr vst rv n :=
 ⟨qax hb h.bC,qax hb h.bc,Own.below (dGRow.stable _) h.or hb,Own.below (S := fun _ => False) (dVal.stable _) h.os hb,h.lot.same (.of_below hb),h.l1,h.l2⟩
theorem GS0.grown (h : GS0 k w vr vst rv n) {o : Option Nat} (hg : w.grownBy w1 o) (ho : ∀ b,o = some b → k.gc < b) : w1.heap[k.gC]? = some (.cells #[.slice none 0 0,.slice none 0 0,.slice none 0 0,k.vl] 97 (0,0)) ∧
  w1.heap[k.gc]? = some (.cells #[.pointer (some ⟨k.gC,0,none⟩),vr,vst,.int .i64 k.seats,.int .i64 k.Q,.int .i64 k.votes] 91 (0,0)) ∧ RInts (fun b => k.lo ≤ b ∧ b < k.gC) w1 k.vl k.lot := by
 have l2 := h.l2
 have hk : Keep [o] w w1 := Keep.of_grown hg
 have no : ∀ b,b ≤ k.gc → some b ∉ [o] := fun b hb hm => by have := ho b (List.mem_singleton.1 hm).symm;omega
 exact ⟨hk.box h.bC (no _ (by omega)),hk.box h.bc (no _ (Nat.le_refl _)),hk.rints h.lot (fun b hb => no b (by omega))⟩
theorem GS0.row (h : GS0 k w vr vst rv n) (hO : Own (k.gc + 1) 93 3 (dGRow fun b => b < k.lo) w1 vr' rv') (hg : w.grownBy w1 vr.ownBlock) : GS0 k (w1.setCell ⟨k.gc,1,none⟩ vr') vr' vst rv' n := by
 have l1 := h.l1
 have l2 := h.l2
 obtain ⟨g1,g2,g3⟩ := h.grown hg (fun b hb => (Own.lt h.or b hb).1)
 have hk : Keep [some k.gc] w1 (w1.setCell ⟨k.gc,1,none⟩ vr') := (Keep.refl _ w1).setIn _ _ _ (.inl (by simp))
 have h0 : Keep [vr.ownBlock] w w1 := Keep.of_grown hg
 have hap := qav h.os h.or (by decide)
 refine ⟨hk.box g1 (by simp;omega),by rw [qa2 g2];rfl,hk.own (dGRow.stable _) hO (fun b hb hm => by have := (Own.lt hO b hb).1;simp at hm;omega) (fun b hb hm => by simp at hm;omega),?_,hk.rints g3 (fun b hb hm => by simp at hm;omega),h.l1,h.l2⟩
 have hs := h0.own (S := fun _ => False) (dVal.stable _) h.os (fun b hb hm => hap b hb (List.mem_singleton.1 hm).symm) (fun _ h => h.elim)
 exact hk.own (S := fun _ => False) (dVal.stable _) hs (fun b hb hm => by have := (Own.lt hs b hb).1;simp at hm;omega) (fun _ h => h.elim)
theorem GS0.status (h : GS0 k w vr vst rv n) (hO : Own (k.gc + 1) 153 1 dVal w1 vst' (stL (n + 1) (rngI k.C) [])) (hg : w.grownBy w1 vst.ownBlock) : GS0 k (w1.setCell ⟨k.gc,2,none⟩ vst') vr vst' rv (n + 1) := by
 have l1 := h.l1
 have l2 := h.l2
 obtain ⟨g1,g2,g3⟩ := h.grown hg (fun b hb => (Own.lt h.os b hb).1)
 have hk : Keep [some k.gc] w1 (w1.setCell ⟨k.gc,2,none⟩ vst') := (Keep.refl _ w1).setIn _ _ _ (.inl (by simp))
 have h0 : Keep [vst.ownBlock] w w1 := Keep.of_grown hg
 have hap := qav h.or h.os (by decide)
 refine ⟨hk.box g1 (by simp;omega),by rw [qa2 g2];rfl,?_,hk.own (S := fun _ => False) (dVal.stable _) hO (fun b hb hm => by have := (Own.lt hO b hb).1;simp at hm;omega) (fun _ h => h.elim),hk.rints g3 (fun b hb hm => by simp at hm;omega),h.l1,h.l2⟩
 have hs := h0.own (dGRow.stable _) h.or (fun b hb hm => hap b hb (List.mem_singleton.1 hm).symm) (fun b hb hm => by have := (Own.lt h.os b (List.mem_singleton.1 hm).symm).1;omega)
 exact hk.own (dGRow.stable _) hs (fun b hb hm => by have := (Own.lt hs b hb).1;simp at hm;omega) (fun b hb hm => by simp at hm;omega)
theorem GS0.done (h : GS0 k w vr vst rv k.C) (hx : k.x = []) : GSt k w (.slice none 0 0) (.slice none 0 0) (.slice none 0 0) vr vst rv (rngI k.C) [] [] [] [] :=
 ⟨h.bC,h.bc,Own.nil _ _ _ _ _,Own.nil _ _ _ _ _,Own.nil _ _ _ _ _,h.or,h.os,h.lot,h.l1,h.l2,fun b hb => by rw [hx] at hb;cases hb⟩
end
end

section
open Go Go.RowKit Go.Shelf Limb

def GivesE (I : Int) (o : Outc) (w : World) (e : Ending) (w' : World) : Prop := ∃ v,e = .returned (.tuple #[v,.int .i64 I]) ∧ VOutc (From w.heap.size) w' v o ∧ Below w.heap.size w w'
theorem GivesE.open {I : Int} {o : Outc} {w : World} {e : Ending} {w' : World} (h : GivesE I o w e w') :
  ∃ b1 m1 c1 b2 m2 c2 b3 m3 c3,e = .returned (.tuple #[.agg #[.slice b1 m1 c1,.slice b2 m2 c2,.slice b3 m3 c3],.int .i64 I]) ∧ VOutc (From w.heap.size) w' (.agg #[.slice b1 m1 c1,.slice b2 m2 c2,.slice b3 m3 c3]) o ∧ Below w.heap.size w w' := by
 obtain ⟨v,rfl,k2,k3⟩ := h
 obtain ⟨x1,x2,x3,rfl,q1,q2,q3⟩ := k2
 obtain ⟨b1,m1,c1,rfl⟩ := RSl.slice q1
 obtain ⟨b2,m2,c2,rfl⟩ := RSl.slice q2
 obtain ⟨b3,m3,c3,rfl⟩ := RSl.slice q3
 exact ⟨_,_,_,_,_,_,_,_,_,rfl,⟨_,_,_,rfl,q1,q2,q3⟩,k3⟩
theorem GivesE.nil (I : Int) {w w' : World} (hb : Below w.heap.size w w') : GivesE I noO w (.returned (.tuple #[.agg #[.slice none 0 0,.slice none 0 0,.slice none 0 0],.int .i64 I])) w' :=
 ⟨_,rfl,⟨_,_,_,rfl,RSl.nil,RSl.nil,RSl.nil⟩,hb⟩
theorem RankF.ok {p : Prof} {seats : Int} {lot : List Int} {C sn : Nat} (h : RankF p seats lot C sn) (lo gC gc : Nat) (vl : Value) (i : Nat) : GOk ⟨lo,gC,gc,C,sn,greQ p sn,markS p.rows,lot,vl,[]⟩ (greS p sn lot i).st (greS p sn lot i).inn (greS p sn lot i).el (greS p sn lot i).rounds (greS p sn lot i).ties := by
 have hI := greS_sq h i
 have hc := h.c10
 have hs := h.s
 have h1 := hI.most
 have h2 := hI.rounds
 have h3 := hI.ties
 exact ⟨by dsimp only;omega,h.gval (greS_inv h i),fun q hq => ((greS_inv h i).val q hq).2,h.q,h.votes,hI.rng,hI.asc,hI.apart,h.lot,by omega,by omega,by omega⟩
theorem GS0.start {lo gC C : Nat} {sn Q V : Int} {lot : List Int} {vl : Value} {w3 w4 : World} (hl : lo ≤ gC) (hg : w3.heap[gC]? = some (.cells #[.slice none 0 0,.slice none 0 0,.slice none 0 0,vl] 97 (0,0))) (hr : RInts (fun b => lo ≤ b ∧ b < gC) w3 vl lot) (hs : gC + 1 = w3.heap.size)
  (hb : Below (w3.alloc (.cells #[.pointer (some ⟨gC,0,none⟩),.slice none 0 0,.slice none 0 0,.int .i64 sn,.int .i64 Q,.int .i64 0] 91)).heap.size (w3.alloc (.cells #[.pointer (some ⟨gC,0,none⟩),.slice none 0 0,.slice none 0 0,.int .i64 sn,.int .i64 Q,.int .i64 0] 91)) w4) :
  GS0 ⟨lo,gC,w3.heap.size,C,sn,Q,V,lot,vl,[]⟩ (w4.setCell ⟨w3.heap.size,5,none⟩ (.int .i64 V)) (.slice none 0 0) (.slice none 0 0) [] 0 := by
 have b4 := bt (qa1 w3 _) hb
 have hk : Keep [some w3.heap.size] w4 (w4.setCell ⟨w3.heap.size,5,none⟩ (.int .i64 V)) := (Keep.refl _ w4).setIn _ _ _ (.inl (by simp))
 refine ⟨hk.box (qax b4 hg) (by simp;omega),?_,Own.nil _ _ _ _ _,Own.nil _ _ _ _ _,hk.rints (hr.same (.of_below b4)) (fun b hb hm => by have h2 : b < gC := hb.2;simp at hm;omega),hl,by dsimp only;omega⟩
 rw [qa2 (qax hb (qa8 w3 _))];rfl
theorem GS0.own {k : GCn} {w : World} {vr vst : Value} {rv : RV} {n : Nat} (h : GS0 k w vr vst rv n) : k.gc + 1 ≤ w.heap.size ∧ (∀ b,b < k.lo → some b ≠ vr.ownBlock) ∧ (∀ b,vr.ownBlock = some b → k.gc < b) ∧ ∀ b,vst.ownBlock = some b → k.gc < b := by
 have l1 := h.l1
 have l2 := h.l2
 have hb := qa0 h.bc
 exact ⟨hb,fun b hb e => by have := (Own.lt h.or b e.symm).1;omega,fun b e => (Own.lt h.or b e).1,fun b e => (Own.lt h.os b e).1⟩
theorem GSt.outc {k : GCn} {w : World} {ve vrd vt vr vst : Value} {rv : RV} {inn el ee : List Int} {rounds : List Rnd} {ties : List Tie} (h : GSt k w ve vrd vt vr vst rv inn el ee rounds ties) (h1 : ee.length ≤ 1000) (h2 : rounds.length ≤ 1000) (h3 : ties.length ≤ 1000) : VOutc (From (k.gc + 1)) w (.agg #[ve,vrd,vt]) ⟨ee,rounds,ties⟩ :=
 ⟨_,_,_,rfl,Own.rsl h.oe (by dsimp only;omega),RSl.mono (fun _ _ _ hd => dRnd.mono (fun _ hb => hb.1) hd) (fun _ h => h) (Own.rsl h.ord (by dsimp only;omega)),RSl.mono (fun _ _ _ hd => dTie.mono (fun _ hb => hb.1) hd) (fun _ h => h) (Own.rsl h.ot (by dsimp only;omega))⟩
end

section
open Go Go.RowKit Go.Shelf Limb

def valB (P : Row → Bool) (rv : RV) : Int := (rv.map fun p => if P p.1 then p.1.many * p.2 else 0).sum
def manB (P : Row → Bool) (rv : RV) : Int := (rv.map fun p => if P p.1 then p.1.many else 0).sum
theorem valB_cons (P : Row → Bool) (p : Row × Int) (rv : RV) : valB P (p :: rv) = (if P p.1 then p.1.many * p.2 else 0) + valB P rv := by rw [valB,List.map_cons,List.sum_cons];rfl
theorem manB_cons (P : Row → Bool) (p : Row × Int) (rv : RV) : manB P (p :: rv) = (if P p.1 then p.1.many else 0) + manB P rv := by rw [manB,List.map_cons,List.sum_cons];rfl
def Okv (rv : RV) : Prop := ∀ p ∈ rv,0 ≤ p.1.many ∧ 0 ≤ p.2
theorem Okv.tail {p : Row × Int} {rv : RV} (h : Okv (p :: rv)) : Okv rv := fun q hq => h q (List.mem_cons_of_mem _ hq)
theorem valB_mono {P P' : Row → Bool} : ∀ {rv : RV},Okv rv → (∀ p ∈ rv,P p.1 = true → P' p.1 = true) → valB P rv ≤ valB P' rv
 | [],_,_ => Int.le_refl _
 | p :: rv,h,hp => by
  have ih := valB_mono h.tail fun q hq => hp q (List.mem_cons_of_mem _ hq)
  have h1 := h p List.mem_cons_self
  have h2 := Int.mul_nonneg h1.1 h1.2
  have h3 := hp p List.mem_cons_self
  rw [valB_cons,valB_cons]
  cases e : P p.1
  ·cases P' p.1 <;> simp only [Bool.false_eq_true,if_false,if_true] <;> omega
  ·rw [h3 e];simp only [if_true];omega
theorem manB_bound {P : Row → Bool} : ∀ {rv : RV},(∀ p ∈ rv,0 ≤ p.1.many) → 0 ≤ manB P rv ∧ manB P rv ≤ sumR (rv.map Prod.fst)
 | [],_ => ⟨Int.le_refl _,Int.le_refl _⟩
 | p :: rv,h => by
  have ih := manB_bound (P := P) (rv := rv) fun q hq => h q (List.mem_cons_of_mem _ hq)
  have h1 := h p List.mem_cons_self
  rw [manB_cons,List.map_cons,sumR,List.map_cons,List.sum_cons]
  rw [sumR] at ih
  split <;> omega
def cntP (P : Row → Bool) (inn : List Int) (x : Int) : Row → Bool := fun r => P r && (nextI inn r.marks == some x)
theorem pass_one {v n Q : Int} (hn : 1 ≤ n) : n * (v * (n - Q) / n) ≤ v * (n - Q) ∧ v * (n - Q) ≤ n * (v * (n - Q) / n) + (n - 1) := by
 have h1 := Int.mul_ediv_add_emod (v * (n - Q)) n
 have h2 := Int.emod_nonneg (v * (n - Q)) (b := n) (by omega)
 have h3 := Int.emod_lt_of_pos (v * (n - Q)) (b := n) (by omega)
 constructor <;> omega
theorem pass_val {P : Row → Bool} {inn : List Int} {x n Q : Int} (hn : 1 ≤ n) : ∀ {rv : RV},Okv rv →
  valB P (rv.map (passG inn Q x n)) = valB P rv - valB (cntP P inn x) rv + valB (cntP P inn x) (rv.map (passG inn Q x n)) ∧
  n * valB (cntP P inn x) (rv.map (passG inn Q x n)) ≤ valB (cntP P inn x) rv * (n - Q) ∧
  valB (cntP P inn x) rv * (n - Q) ≤ n * valB (cntP P inn x) (rv.map (passG inn Q x n)) + (n - 1) * manB (cntP P inn x) rv
 | [],_ => by simp [valB,manB]
 | p :: rv, h => by
  obtain ⟨i1,i2,i3⟩ := pass_val (P := P) (inn := inn) (x := x) (n := n) (Q := Q) hn h.tail
  have hp := h p List.mem_cons_self
  obtain ⟨o1,o2⟩ := pass_one (v := p.2) (Q := Q) hn
  simp only [List.map_cons,valB_cons,manB_cons]
  by_cases hx : nextI inn p.1.marks = some x
  ·have e1 : (passG inn Q x n p).1 = p.1 := by rw [passG, if_pos hx]
   have e2 : (passG inn Q x n p).2 = p.2 * (n - Q) / n := by rw [passG,if_pos hx]
   have e3 : cntP P inn x p.1 = P p.1 := by simp [cntP,hx]
   rw [e1,e2,e3]
   cases P p.1
   ·simp only [Bool.false_eq_true,if_false,Int.zero_add];exact ⟨i1,i2,i3⟩
   ·simp only [if_true]
    have m1 : p.1.many * (n * (p.2 * (n - Q) / n)) ≤ p.1.many * (p.2 * (n - Q)) := Int.mul_le_mul_of_nonneg_left o1 hp.1
    have m2 : p.1.many * (p.2 * (n - Q)) ≤ p.1.many * (n * (p.2 * (n - Q) / n) + (n - 1)) := Int.mul_le_mul_of_nonneg_left o2 hp.1
    have a1 : p.1.many * (n * (p.2 * (n - Q) / n)) = n * (p.1.many * (p.2 * (n - Q) / n)) := Int.mul_left_comm _ _ _
    have a2 : p.1.many * (p.2 * (n - Q)) = p.1.many * p.2 * (n - Q) := (Int.mul_assoc _ _ _).symm
    rw [Int.mul_add,a1,a2,Int.mul_comm p.1.many (n - 1)] at m2
    rw [a1,a2] at m1
    refine ⟨by omega,?_,?_⟩
    ·rw [Int.mul_add,Int.add_mul];omega
    ·rw [Int.mul_add,Int.add_mul,Int.mul_add];omega
  ·have e1 : passG inn Q x n p = p := by rw [passG, if_neg hx]
   have e3 : cntP P inn x p.1 = false := by simp [cntP,hx]
   rw [e1,e3]
   simp only [Bool.false_eq_true,if_false,Int.zero_add]
   exact ⟨by omega,i2,i3⟩
theorem valB_le_cnt {P : Row → Bool} {inn : List Int} {x : Int} : ∀ {rv : RV},Okv rv → 0 ≤ valB (cntP P inn x) rv ∧ valB (cntP P inn x) rv ≤ cntG inn rv x
 | [],_ => ⟨Int.le_refl _,Int.le_refl _⟩
 | p :: rv, h => by
  have ih := valB_le_cnt (P := P) (inn := inn) (x := x) h.tail
  have h1 := h p List.mem_cons_self
  have h2 := Int.mul_nonneg h1.1 h1.2
  rw [valB_cons,cntG,List.map_cons,List.sum_cons]
  rw [cntG] at ih
  by_cases hx : nextI inn p.1.marks = some x
  ·rw [if_pos hx]
   split <;> omega
  ·rw [if_neg hx, show cntP P inn x p.1 = false by simp [cntP, hx]]
   simp only [Bool.false_eq_true,if_false]
   omega
theorem pass_lose {P : Row → Bool} {inn : List Int} {x n Q B : Int} {rv : RV} (hn : 1 ≤ n) (hQ : 0 ≤ Q ∧ Q ≤ n) (h : Okv rv) (hx : cntG inn rv x = n) (hB : sumR (rv.map Prod.fst) ≤ B) : valB P rv - Q - B ≤ valB P (rv.map (passG inn Q x n)) := by
 obtain ⟨i1,-,i3⟩ := pass_val (P := P) (inn := inn) (x := x) (n := n) (Q := Q) hn h
 have hc := valB_le_cnt (P := P) (inn := inn) (x := x) h
 have hm := manB_bound (P := cntP P inn x) (rv := rv) fun p hp => (h p hp).1
 rw [i1]
 rw [hx] at hc
 generalize valB (cntP P inn x) rv = a at *
 generalize valB (cntP P inn x) (rv.map (passG inn Q x n)) = b at *
 generalize manB (cntP P inn x) rv = m at *
 -- n * (a - b) ≤ a * Q + (n - 1) * m ≤ n * Q + n * B
 have k1 : a * Q ≤ n * Q := Int.mul_le_mul_of_nonneg_right hc.2 hQ.1
 have k2 : (n - 1) * m ≤ n * B := by
  have h1 : (n - 1) * m ≤ n * m := Int.mul_le_mul_of_nonneg_right (by omega) hm.1
  have h2 : n * m ≤ n * B := Int.mul_le_mul_of_nonneg_left (by omega) (by omega)
  omega
 rw [Int.mul_sub,Int.mul_comm a n] at i3
 have k3 : n * (a - b - (Q + B)) ≤ 0 := by
  rw [Int.mul_sub,Int.mul_sub,Int.mul_add];omega
 have k4 : a - b - (Q + B) ≤ 0 := by
  rcases Int.lt_or_le 0 (a - b - (Q + B)) with h | h
  ·have := Int.mul_pos (show 0 < n by omega) h;omega
  ·exact h
 omega
theorem pass_take {inn : List Int} {x n Q : Int} {rv : RV} (hn : 1 ≤ n) (h : Okv rv) (hx : cntG inn rv x = n) : valB (fun r => (nextI inn r.marks).isSome) (rv.map (passG inn Q x n)) ≤ valB (fun r => (nextI inn r.marks).isSome) rv - Q := by
 obtain ⟨i1,i2,-⟩ := pass_val (P := fun r => (nextI inn r.marks).isSome) (inn := inn) (x := x) (n := n) (Q := Q) hn h
 have e : valB (cntP (fun r => (nextI inn r.marks).isSome) inn x) rv = n := by
  rw [← hx,valB,cntG]
  congr 1
  apply List.map_congr_left
  intro p _
  by_cases hp : nextI inn p.1.marks = some x
  ·simp [cntP,hp]
  ·simp [cntP,hp]
 rw [i1]
 rw [e] at i2 ⊢
 generalize valB (cntP (fun r => (nextI inn r.marks).isSome) inn x) (rv.map (passG inn Q x n)) = b at *
 have k4 : b - (n - Q) ≤ 0 := by
  rcases Int.lt_or_le 0 (b - (n - Q)) with h | h
  ·have := Int.mul_pos (show 0 < n by omega) h
   rw [Int.mul_sub] at this;omega
  ·exact h
 omega
theorem pass_still {P : Row → Bool} {inn : List Int} {x n Q : Int} : ∀ {rv : RV},(∀ p ∈ rv,P p.1 = true → nextI inn p.1.marks ≠ some x) → valB P (rv.map (passG inn Q x n)) = valB P rv
 | [],_ => rfl
 | p :: rv, h => by
  have ih := pass_still (P := P) (inn := inn) (x := x) (n := n) (Q := Q) (rv := rv) fun q hq => h q (List.mem_cons_of_mem _ hq)
  rw [List.map_cons,valB_cons,valB_cons,ih]
  by_cases hx : nextI inn p.1.marks = some x
  ·have : P p.1 = false := by
    cases e : P p.1
    ·rfl
    ·exact absurd hx (h p List.mem_cons_self e)
   rw [show (passG inn Q x n p).1 = p.1 by rw [passG,if_pos hx],this]
   rfl
  ·rw [passG,if_neg hx]
theorem Okv.pass {inn : List Int} {x n Q : Int} {rv : RV} (h : Okv rv) (hn : 1 ≤ n) (hQ : 0 ≤ Q ∧ Q ≤ n) : Okv (rv.map (passG inn Q x n)) := by
 intro q hq
 obtain ⟨p,hp,rfl⟩ := List.mem_map.1 hq
 have h1 := h p hp
 unfold passG
 split
 ·exact ⟨h1.1,(pass_bound h1.2 hQ hn).1⟩
 ·exact h1
def inN (inn L : List Int) (r : Row) : Bool := match nextI inn r.marks with
 | some y => L.contains y
 | none => false
theorem cntG_sum {inn : List Int} : ∀ {L : List Int},L.Nodup → ∀ (rv : RV),(L.map (cntG inn rv)).sum = valB (inN inn L) rv
 | [], _, rv => by
  rw [List.map_nil,List.sum_nil,valB]
  induction rv with
  | nil => rfl
  | cons p rv ih => 
   rw [List.map_cons,List.sum_cons,← ih]
   unfold inN
   cases nextI inn p.1.marks <;> simp
 | x :: L, hn, rv => by
  obtain ⟨n1,n2⟩ := List.nodup_cons.1 hn
  have ih := cntG_sum (inn := inn) n2 rv
  rw [List.map_cons,List.sum_cons,ih]
  clear ih
  induction rv with
  | nil => rfl
  | cons p rv ih =>
   rw [valB_cons,valB_cons,← ih,cntG,List.map_cons,List.sum_cons]
   rw [cntG]
   unfold inN
   cases e : nextI inn p.1.marks with
   | none => simp
   | some y =>
    by_cases hy : y = x
    ·subst hy
     simp [n1];omega
    ·have hne : ¬ (some y = some x) := fun h => hy (Option.some.inj h)
     rw [if_neg hne]
     simp [hy];omega
end

section
open Go Go.RowKit Go.Shelf Limb

def solidB (A : List Int) (r : Row) : Bool := decide (0 < A.length) && (decide (A.length ≤ r.marks.length) && (r.marks.take A.length).all fun x => A.contains x)
def insI (A l : List Int) : List Int := A.filter fun x => l.contains x
theorem mem_insI {A l : List Int} {x : Int} : x ∈ insI A l ↔ x ∈ A ∧ x ∈ l := by simp [insI,List.mem_filter]
theorem next_solid {A inn : List Int} {r : Row} (hn : r.marks.Nodup) (hs : solidB A r = true) (hy : insI A inn ≠ []) : ∃ x ∈ A,nextI inn r.marks = some x := by
 simp only [solidB,Bool.and_eq_true,decide_eq_true_eq,List.all_eq_true,List.contains_iff_mem] at hs
 obtain ⟨-,hl,hall⟩ := hs
 obtain ⟨y,hy⟩ := List.exists_mem_of_ne_nil _ hy
 obtain ⟨y1,y2⟩ := mem_insI.1 hy
 have hp : List.Perm (r.marks.take A.length) A := perm_of_sub (List.Nodup.sublist (List.take_sublist _ _) hn) hall (by rw [List.length_take];omega)
 have hyt := hp.mem_iff.2 y1
 have hfind : ((r.marks.take A.length).find? fun x => inn.contains x).isSome = true := by
  rw [List.find?_isSome];exact ⟨y,hyt,by simpa using y2⟩
 obtain ⟨x,hx⟩ := Option.isSome_iff_exists.1 hfind
 refine ⟨x,hall x (List.mem_of_find?_eq_some hx),?_⟩
 rw [nextI]
 conv => lhs;rw [← List.take_append_drop A.length r.marks]
 rw [List.find?_append,hx];rfl
theorem ins_add {l m : List Int} (hd : ∀ x ∈ l,x ∉ m) : ∀ A : List Int,(insI A (l ++ m)).length = (insI A l).length + (insI A m).length
 | [] => rfl
 | a :: A => by
  have ih := ins_add hd A
  simp only [insI,List.filter_cons] at ih ⊢
  by_cases h1 : a ∈ l
  ·have h2 := hd a h1
   simp only [List.contains_iff_mem,List.mem_append,h1,h2,true_or,if_true,if_false,List.length_cons]
   omega
  ·by_cases h2 : a ∈ m
   ·simp only [List.contains_iff_mem, List.mem_append, h1, h2, or_true, if_true, if_false, List.length_cons]
    omega
   ·simp only [List.contains_iff_mem, List.mem_append, h1, h2, or_false, if_false]
    omega
theorem ins_one {x : Int} : ∀ {A : List Int},A.Nodup → (insI A [x]).length = if x ∈ A then 1 else 0
 | [],_ => rfl
 | a :: A, hn => by
  obtain ⟨n1,n2⟩ := List.nodup_cons.1 hn
  have ih := ins_one (x := x) n2
  simp only [insI,List.filter_cons] at ih ⊢
  by_cases h : a = x
  ·subst h
   rw [if_neg n1] at ih
   rw [if_pos (by simp),List.length_cons,ih,if_pos List.mem_cons_self]
  ·have h2 : ¬ x = a := fun e => h e.symm
   rw [if_neg (by simpa using h),ih]
   simp [h2]
theorem ins_drop (A inn : List Int) (x : Int) : insI A (inn.filter fun y => !(y == x)) = (insI A inn).filter fun y => !(y == x) := by
 rw [insI,insI,List.filter_filter]
 apply List.filter_congr
 intro y _
 rw [Bool.eq_iff_iff]
 simp [List.mem_filter,and_comm]
theorem ins_drop_in {A inn : List Int} {x : Int} (hn : A.Nodup) (h1 : x ∈ A) (h2 : x ∈ inn) : (insI A (inn.filter fun y => !(y == x))).length + 1 = (insI A inn).length := by
 rw [ins_drop];exact qb2 (hn.filter _) (mem_insI.2 ⟨h1,h2⟩)
theorem ins_drop_out {A inn : List Int} {x : Int} (h1 : x ∉ A) : insI A (inn.filter fun y => !(y == x)) = insI A inn := by
 rw [ins_drop]
 exact List.filter_eq_self.2 fun y hy => by
  have := (mem_insI.1 hy).1
  have : y ≠ x := fun e => h1 (e ▸ this)
  simpa using this
theorem ins_le {A l : List Int} (hA : A.Nodup) (hl : l.Nodup) : (insI A l).length ≤ l.length := by
 have h1 : (insI A l).Nodup := hA.filter _
 have h2 : (insI l A).Nodup := hl.filter _
 have hp : List.Perm (insI A l) (insI l A) := (List.perm_ext_iff_of_nodup h1 h2).2 fun a => by rw [mem_insI,mem_insI];exact And.comm
 rw [hp.length_eq]
 exact List.length_filter_le _ _
theorem mem_sum {g : Int → Int} : ∀ {L : List Int},(∀ y ∈ L,0 ≤ g y) → ∀ x ∈ L,g x ≤ (L.map g).sum
 | [],_,x,hx => absurd hx List.not_mem_nil
 | a :: L, h, x, hx => by
  have h0 : 0 ≤ (L.map g).sum := by
   clear hx
   induction L with
   | nil => exact Int.le_refl _
   | cons b L ih =>
    rw [List.map_cons,List.sum_cons]
    have := ih fun y hy => h y (by simp at hy ⊢;rcases hy with e | e;exact .inl e;exact .inr (.inr e))
    have := h b (by simp)
    omega
  have ha := h a List.mem_cons_self
  rw [List.map_cons,List.sum_cons]
  rcases List.mem_cons.1 hx with rfl | hx
  ·omega
  ·have := mem_sum (g := g) (fun y hy => h y (List.mem_cons_of_mem _ hy)) x hx
   omega
theorem sum_const_sub {f : Int → Int} {b : Int} : ∀ L : List Int,(L.map fun y => b - f y).sum = L.length * b - (L.map f).sum
 | [] => by simp
 | a :: L => by
  rw [List.map_cons,List.sum_cons,sum_const_sub L,List.map_cons,List.sum_cons,List.length_cons,Int.natCast_add,Int.add_mul];omega
theorem sum_ge {f : Int → Int} {c : Int} : ∀ {L : List Int},(∀ y ∈ L,c ≤ f y) → L.length * c ≤ (L.map f).sum
 | [],_ => by simp
 | a :: L,h => by
  have ih := sum_ge (f := f) (c := c) (L := L) fun y hy => h y (List.mem_cons_of_mem _ hy)
  have := h a List.mem_cons_self
  rw [List.map_cons,List.sum_cons,List.length_cons,Int.natCast_add,Int.add_mul];omega
theorem next_drop {inn marks : List Int} {p : Int → Bool} (h : (nextI (inn.filter p) marks).isSome = true) : (nextI inn marks).isSome = true := by
 rw [nextI,List.find?_isSome] at h ⊢
 obtain ⟨x,hx,hc⟩ := h
 refine ⟨x,hx,?_⟩
 simp only [List.contains_iff_mem,List.mem_filter] at hc ⊢
 exact hc.1
structure SolI (A : List Int) (Q votes V0 : Int) (s : Sq RV) : Prop where
 own : s.inn ≠ [] → valB (fun r => (nextI s.inn r.marks).isSome) s.st + s.el.length * Q ≤ votes * 1000000000
 sol : insI A s.inn ≠ [] → V0 - (insI A s.el).length * (Q + 1000000) ≤ valB (solidB A) s.st
 cnt : ∀ k : Nat,k * Q ≤ V0 → min k A.length ≤ (insI A s.inn).length + (insI A s.el).length
theorem had_in {C : Nat} {Q : Int} {rv : RV} {inn el : List Int} {y : Int} (h : 0 ≤ y ∧ y < (C : Int)) (hy : y ∉ el) : gI (greH C Q rv inn el) y = cntG inn rv y := by
 obtain ⟨n,rfl⟩ : ∃ n : Nat,y = (n : Int) := ⟨y.toNat,by omega⟩
 have hn : n < (greH C Q rv inn el).length := by rw [greH,qae];omega
 rw [gI_at hn]
 simp only [greH]
 rw [fl_get,greF,if_neg (by simpa using hy)]
structure Sizes (Q votes : Int) (seats : Nat) : Prop where
 q : 1000000000 ≤ Q
 v : votes * 1000000000 + 1000000000 ≤ (seats + 1) * Q
 s : seats ≤ 10
theorem sol_out {A : List Int} {C seats : Nat} {Q votes V0 : Int} {s : Sq RV} {rows : List Row} {x : Int} (hz : Sizes Q votes seats) (hA : A.Nodup) (hm : ∀ r ∈ rows,r.marks.Nodup ∧ 0 < r.many) (hv : GInv rows s.st) (h : SqI C seats s) (hel : s.el.length < seats) (hfull : seats < s.inn.length + s.el.length)
  (hno : ∀ y ∈ s.inn,cntG s.inn s.st y < Q) (hx : x ∈ s.inn) (hmin : ∀ y ∈ s.inn,cntG s.inn s.st x ≤ cntG s.inn s.st y) (hxA : x ∈ A) (hS : SolI A Q votes V0 s) (k : Nat) (hk : k * Q ≤ V0) : (insI A s.inn).length + (insI A s.el).length ≤ k → False := by
 intro hle
 have hok : Okv s.st := fun p hp => ⟨by have := (hm _ (hv.mem hp)).2;omega,(hv.val p hp).1⟩
 have hne : s.inn ≠ [] := List.ne_nil_of_mem hx
 have hxi := mem_insI.2 ⟨hxA,hx⟩
 have hi : insI A s.inn ≠ [] := List.ne_nil_of_mem hxi
 have s1 := hS.sol hi
 have s2 := hS.own hne
 have hnin := qaz h.asc
 -- the coalition's value is what its hopeful members have
 have c1 := cntG_sum (inn := s.inn) (L := insI A s.inn) (hA.filter _) s.st
 have c2 : valB (solidB A) s.st ≤ valB (inN s.inn (insI A s.inn)) s.st := valB_mono hok fun p hp hs => by
  obtain ⟨y,hy,e⟩ := next_solid (hm _ (hv.mem hp)).1 hs hi
  simp only [inN,e,List.contains_iff_mem]
  exact mem_insI.2 ⟨hy,(nextI_mem e).1⟩
 rw [← c1] at c2
 have c3 := mem_sum (g := fun y => (Q - 1) - cntG s.inn s.st y) (L := insI A s.inn) (fun y hy => by have := hno y (mem_insI.1 hy).2;omega) x hxi
 rw [sum_const_sub] at c3
 -- all hopeful
 have d1 := sum_ge (f := cntG s.inn s.st) (c := cntG s.inn s.st x) (L := s.inn) hmin
 rw [cntG_sum hnin] at d1
 have d2 : valB (inN s.inn s.inn) s.st ≤ valB (fun r => (nextI s.inn r.marks).isSome) s.st := valB_mono hok fun p _ hs => by
  unfold inN at hs
  cases e : nextI s.inn p.1.marks with
  | none => rw [e] at hs;cases hs
  | some y => rfl
 have hje : (insI A s.el).length ≤ s.el.length := ins_le hA h.elnd
 have hq := hz.q
 have hvv := hz.v
 have hs := hz.s
 generalize cntG s.inn s.st x = cx at *
 generalize valB (solidB A) s.st = V at *
 generalize valB (fun r => (nextI s.inn r.marks).isSome) s.st = U at *
 generalize valB (inN s.inn s.inn) s.st = U' at *
 generalize ((insI A s.inn).map (cntG s.inn s.st)).sum = V' at *
 have hh0 : 0 < (insI A s.inn).length := List.length_pos_iff.2 hi
 generalize (insI A s.inn).length = hh at *
 generalize (insI A s.el).length = j at *
 generalize s.inn.length = ni at *
 generalize s.el.length = e at *
 have k1 : ((hh + j : Nat) : Int) * Q ≤ k * Q := Int.mul_le_mul_of_nonneg_right (by omega) (by omega)
 rw [Int.natCast_add,Int.add_mul] at k1
 rw [Int.mul_add] at s1
 have k2 : (hh : Int) * (Q - 1) = hh * Q - hh := by rw [Int.mul_sub];omega
 rw [k2] at c3
 have hj : (j : Int) * 1000000 ≤ 10000000 := by omega
 have hcx : Q - 10000000 ≤ cx := by omega
 -- many hopeful
 have m1 : ((seats + 1 - e : Nat) : Int) * (Q - 10000000) ≤ ni * cx := by
  have a1 : ((seats + 1 - e : Nat) : Int) * (Q - 10000000) ≤ ni * (Q - 10000000) := Int.mul_le_mul_of_nonneg_right (by omega) (by omega)
  have a2 : (ni : Int) * (Q - 10000000) ≤ ni * cx := Int.mul_le_mul_of_nonneg_left hcx (by omega)
  omega
 have m2 : ((seats + 1 - e : Nat) : Int) = (seats : Int) + 1 - e := by omega
 rw [m2,Int.mul_sub,Int.sub_mul] at m1
 have m3 : ((seats : Int) + 1 - e) * 10000000 ≤ 110000000 := by omega
 omega
end

section
open Go Go.RowKit Go.Shelf Limb

section
variable {A : List Int} {C seats : Nat} {Q votes V0 : Int} {s : Sq RV} {rows : List Row} {lot : List Int}
theorem sol_fill (hl : LotOf lot C) (h : SqI C seats s) (hS : SolI A Q votes V0 s) (R : Rule RV) : SolI A Q votes V0 ⟨s.st,[],s.el ++ (s.fill R lot).elected,s.rounds ++ [s.rnd R (s.fill R lot).elected []],s.ties ++ (s.fill R lot).ties⟩ := by
 obtain ⟨f1,f2,f3,f4,f5,f6⟩ := qb3 (had := s.had R) hl h.rng (qaz h.asc) s.inn.length (Nat.le_refl _)
 have hall : ∀ y ∈ s.inn,y ∈ (s.fill R lot).elected := fun y hy => by
  have hnil := fill_all (had := s.had R) hl h.rng (qaz h.asc)
  rw [f1] at hnil
  have h1 := List.filter_eq_nil_iff.1 hnil y hy
  have h2 : (s.fill R lot).elected = (fillS (s.had R) lot s.inn s.inn.length).elected := rfl
  rw [h2]
  simpa using h1
 have hsub : ∀ y ∈ (s.fill R lot).elected,y ∈ s.inn := f3
 have e0 : insI A ([] : List Int) = [] := by simp [insI]
 refine ⟨fun h => absurd rfl h,fun h => absurd e0 h,fun k hk => ?_⟩
 have h1 := hS.cnt k hk
 have h2 := ins_add (l := s.el) (m := (s.fill R lot).elected) (fun x hx hm => h.apart x (hsub x hm) hx) A
 have h3 : insI A (s.fill R lot).elected = insI A s.inn := by
  unfold insI
  apply List.filter_congr
  intro y _
  rw [Bool.eq_iff_iff]
  simp only [List.contains_iff_mem]
  exact ⟨hsub y,hall y⟩
 rw [h3] at h2
 dsimp only
 rw [h2,e0,List.length_nil]
 omega
theorem sol_win (hz : Sizes Q votes seats) (hA : A.Nodup) (hm : ∀ r ∈ rows,r.marks.Nodup ∧ 0 < r.many) (hsum : sumR rows ≤ 1000000) (hv : GInv rows s.st) (h : SqI C seats s) {x n : Int} (hx : x ∈ s.inn) (hn : cntG s.inn s.st x = n) (hq : Q ≤ n) (hS : SolI A Q votes V0 s) (rs : List Rnd) (ts : List Tie) :
  SolI A Q votes V0 ⟨s.st.map (passG s.inn Q x n),s.inn.filter (fun y => !(y == x)),s.el ++ [x],rs,ts⟩ := by
 have hok : Okv s.st := fun p hp => ⟨by have := (hm _ (hv.mem hp)).2;omega,(hv.val p hp).1⟩
 have hq0 := hz.q
 have hn1 : 1 ≤ n := by omega
 have hQ : 0 ≤ Q ∧ Q ≤ n := ⟨by omega,hq⟩
 have hok2 := hok.pass (inn := s.inn) (x := x) hn1 hQ
 have hxe := h.apart x hx
 have hda := ins_add (l := s.el) (m := [x]) (fun y hy hm => hxe (by rw [← List.mem_singleton.1 hm];exact hy)) A
 rw [ins_one hA] at hda
 constructor
 ·intro hne
  dsimp only at hne ⊢
  have hne2 : s.inn ≠ [] := List.ne_nil_of_mem hx
  have h1 := hS.own hne2
  have h2 := pass_take (inn := s.inn) (x := x) (n := n) (Q := Q) hn1 hok hn
  have h3 := valB_mono (P := fun r => (nextI (s.inn.filter fun y => !(y == x)) r.marks).isSome) (P' := fun r => (nextI s.inn r.marks).isSome) hok2 fun p _ hp => next_drop hp
  rw [List.length_append,List.length_cons,List.length_nil,Int.natCast_add,Int.add_mul]
  omega
 ·intro hne
  dsimp only at hne ⊢
  have hne2 : insI A s.inn ≠ [] := fun e => hne (by rw [ins_drop,e];rfl)
  have h1 := hS.sol hne2
  rw [hda]
  by_cases hxA : x ∈ A
  ·rw [if_pos hxA]
   have h2 := pass_lose (P := solidB A) (inn := s.inn) (x := x) (n := n) (Q := Q) (B := 1000000) hn1 hQ hok hn (by rw [hv.rows];exact hsum)
   rw [Int.natCast_add,Int.add_mul]
   omega
  ·rw [if_neg hxA, Nat.add_zero, pass_still fun p hp hs e => ?_]
   ·exact h1
   ·obtain ⟨y, hy, e2⟩ := next_solid (hm _ (hv.mem hp)).1 hs hne2
    rw [e] at e2
    exact hxA (by rw [Option.some.inj e2];exact hy)
 ·intro k hk
  dsimp only
  have h1 := hS.cnt k hk
  rw [hda]
  by_cases hxA : x ∈ A
  ·rw [if_pos hxA]
   have := ins_drop_in hA hxA hx
   omega
  ·rw [if_neg hxA,ins_drop_out hxA];omega
theorem SolI.step (hl : LotOf lot C) (hz : Sizes Q votes seats) (hA : A.Nodup) (hm : ∀ r ∈ rows,r.marks.Nodup ∧ 0 < r.many) (hsum : sumR rows ≤ 1000000) (hv : GInv rows s.st) (h : SqI C seats s) (h2 : s.el.length < seats) (hS : SolI A Q votes V0 s) : SolI A Q votes V0 (step (greR C Q votes) seats lot s) := by
 have hne := h.ne h2
 have hhad : ∀ y ∈ s.inn,gI (s.had (greR C Q votes)) y = cntG s.inn s.st y := fun y hy => had_in (h.rng y hy) (h.apart y hy)
 unfold Go.Proofs.YthcbkhfmdginiaaGreat.step
 split
 ·exact sol_fill hl h hS _
 ·rename_i hf
  split
  ·rename_i hr
   have hq := reach_first hl h hr
   obtain ⟨k1,k2⟩ := h.pick hl (f := gI (s.had (greR C Q votes))) hne
   have e := hhad _ k2
   have hq' := hq
   rw [Sq.best] at hq'
   have := sol_win hz hA hm hsum hv h k2 e.symm hq' hS
   exact this _ _
  ·rename_i hr
   obtain ⟨k1,k2⟩ := h.pick (qba hl) (f := fun y => - gI (s.had (greR C Q votes)) y) hne
   have k2' : firstL lot.reverse (s.least (greR C Q votes)) ∈ s.inn := k2
   have hmin : ∀ y ∈ s.inn,cntG s.inn s.st (firstL lot.reverse (s.least (greR C Q votes))) ≤ cntG s.inn s.st y := fun y hy => by
    have h1 := (qak.1 k1).2 y hy
    rw [hhad y hy,hhad _ k2] at h1
    rw [Sq.least]
    omega
   have hno : ∀ y ∈ s.inn,cntG s.inn s.st y < Q := fun y hy => by
    have h1 : s.inn.any (fun x => decide (Q ≤ gI (greH C Q s.st s.inn s.el) x)) ≠ true := hr
    rw [ne_eq,List.any_eq_true] at h1
    rcases Int.lt_or_le (cntG s.inn s.st y) Q with h3 | h3
    ·exact h3
    ·refine absurd ⟨y, hy, ?_⟩ h1
     have h4 := hhad y hy
     have h5 : gI (greH C Q s.st s.inn s.el) y = cntG s.inn s.st y := h4
     rw [h5]
     exact decide_eq_true h3
   generalize firstL lot.reverse (s.least (greR C Q votes)) = x at *
   have hok : Okv s.st := fun p hp => ⟨by have := (hm _ (hv.mem hp)).2;omega,(hv.val p hp).1⟩
   constructor
   ·intro hne2
    dsimp only at hne2 ⊢
    have h1 := hS.own hne
    have h3 := valB_mono (P := fun r => (nextI (s.inn.filter fun y => !(y == x)) r.marks).isSome) (P' := fun r => (nextI s.inn r.marks).isSome) hok fun p _ hp => next_drop hp
    have h4 : (greR C Q votes).out s.st s.inn s.el x = s.st := rfl
    rw [h4]
    omega
   ·intro hne2
    dsimp only at hne2 ⊢
    have hne3 : insI A s.inn ≠ [] := fun e => hne2 (by rw [ins_drop,e];rfl)
    exact hS.sol hne3
   ·intro k hk
    dsimp only
    have h1 := hS.cnt k hk
    by_cases hxA : x ∈ A
    ·have hd := ins_drop_in hA hxA k2'
     rcases Nat.lt_or_ge (min k A.length) ((insI A s.inn).length + (insI A s.el).length) with h3 | h3
     ·omega
     ·exact (sol_out hz hA hm hv h h2 (by omega) hno k2' hmin hxA hS k hk (by omega)).elim
    ·rw [ins_drop_out hxA];exact h1
end
theorem RankF.sizes {p : Prof} {seats : Int} {lot : List Int} {C sn : Nat} (h : RankF p seats lot C sn) : Sizes (greQ p sn) (markS p.rows) sn := by
 have hv := h.votes
 have hs := h.s
 have hc := h.c10
 have hd := droop_bound (v := markS p.rows) (s := (sn : Int)) hv (by omega)
 refine ⟨by unfold greQ;omega,?_,by omega⟩
 have e1 := Int.mul_ediv_add_emod (markS p.rows) ((sn : Int) + 1)
 have e2 := Int.emod_lt_of_pos (markS p.rows) (b := (sn : Int) + 1) (by omega)
 have e3 : ((sn : Int) + 1) * greQ p sn = (((sn : Int) + 1) * (markS p.rows / ((sn : Int) + 1)) + ((sn : Int) + 1)) * 1000000000 := by
  rw [greQ,droop,← Int.mul_assoc,Int.mul_add,Int.mul_one]
 rw [e3]
 omega
section
variable {p : Prof} {seats : Int} {lot : List Int} {C sn : Nat}
end
end
end Go.Proofs.YthcbkhfmdginiaaGreat
