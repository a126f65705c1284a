/- Texts of one claim,put together: SqP,DivP,DivW,GreP,QuoA,QuoB,Keep,GreA,ChoQ,GreB,GreC,GreD,GreE,OwnS,GreF,GreG,GreH. -/
import Derived.Test.YthcbkhfmdginiaaGreatRGOne
import Derived.Test.YthcbkhfmdginiaaGreatRGNat
import Derived.Test.YthcbkhfmdginiaaGreatRGRat
import Derived.Test.YthcbkhfmdginiaaGreatRGSam
import Derived.Test.YthcbkhfmdginiaaGreatRGAdd
import Derived.Test.YthcbkhfmdginiaaGreatRGRul
import Derived.Test.YthcbkhfmdginiaaGreatRGCho
import Derived.Test.YthcbkhfmdginiaaGreatRGRen
import Derived.Deep.CutBlock
import Derived.Sort.OwnSortedInts
import Derived.Handy
import Derived.StillTailTactics

namespace Go.Proofs.YthcbkhfmdginiaaGreat
section

def bill (n : Int) : Rt := ⟨false,Limb.lim (n.toNat / Nat.gcd n.toNat 1000000000),Limb.lim (1000000000 / Nat.gcd n.toNat 1000000000)⟩
def fillS (had lot left : List Int) : Nat → St
 | 0 => ⟨left,[],[]⟩
 | i + 1 =>
  let s := fillS had lot left i
  let am := bestL (gI had) s.left
  let x := firstL lot am
  ⟨s.left.filter (fun y => !(y == x)),s.elected ++ [x],s.ties ++ tieL am x⟩
structure Rule (σ : Type) where
 had : σ → List Int → List Int → List Int
 lost : σ → List Int → List Int → Int
 reach : σ → List Int → List Int → Bool
 win : σ → List Int → List Int → Int → σ
 out : σ → List Int → List Int → Int → σ
structure Sq (σ : Type) where
 st : σ
 inn : List Int
 el : List Int
 rounds : List Rnd
 ties : List Tie
section
variable {σ : Type} (R : Rule σ) (seats : Nat) (lot : List Int)
def Sq.had (s : Sq σ) : List Int := R.had s.st s.inn s.el
def Sq.lost (s : Sq σ) : Int := R.lost s.st s.inn s.el
def Sq.reach (s : Sq σ) : Bool := R.reach s.st s.inn s.el
def Sq.best (s : Sq σ) : List Int := bestL (gI (s.had R)) s.inn
def Sq.least (s : Sq σ) : List Int := bestL (fun y => - gI (s.had R) y) s.inn
def Sq.fill (s : Sq σ) : St := fillS (s.had R) lot s.inn s.inn.length
def Sq.rnd (s : Sq σ) (e o : List Int) : Rnd := ⟨(s.had R).map bill,bill (s.lost R),e,o⟩
def step (s : Sq σ) : Sq σ :=
 if s.inn.length + s.el.length ≤ seats then
  ⟨s.st,[],s.el ++ (s.fill R lot).elected,s.rounds ++ [s.rnd R (s.fill R lot).elected []],s.ties ++ (s.fill R lot).ties⟩
 else if s.reach R = true then
  ⟨R.win s.st s.inn s.el (firstL lot (s.best R)),s.inn.filter (fun y => !(y == firstL lot (s.best R))),s.el ++ [firstL lot (s.best R)],s.rounds ++ [s.rnd R [firstL lot (s.best R)] []],s.ties ++ tieL (s.best R) (firstL lot (s.best R))⟩
 else
  ⟨R.out s.st s.inn s.el (firstL lot.reverse (s.least R)),s.inn.filter (fun y => !(y == firstL lot.reverse (s.least R))),s.el,s.rounds ++ [s.rnd R [] [firstL lot.reverse (s.least R)]],s.ties ++ tieL (s.least R) (firstL lot.reverse (s.least R))⟩
def run (s0 : σ) (C : Nat) : Nat → Sq σ
 | 0 => ⟨s0,rngI C,[],[],[]⟩
 | k + 1 => if (run s0 C k).el.length < seats then step R seats lot (run s0 C k) else run s0 C k
end
structure SqI {σ : Type} (C seats : Nat) (s : Sq σ) : Prop where
 rng : ∀ x ∈ s.inn,0 ≤ x ∧ x < C
 asc : s.inn.Pairwise (fun a b => a < b)
 els : ∀ x ∈ s.el,0 ≤ x ∧ x < C
 elnd : s.el.Nodup
 apart : ∀ x ∈ s.inn,x ∉ s.el
 enough : seats ≤ s.inn.length + s.el.length
 most : s.el.length ≤ seats
 rounds : s.rounds.length + s.inn.length ≤ C
 ties : s.ties.length + s.inn.length ≤ C
theorem qaz {l : List Int} (h : l.Pairwise (fun a b => a < b)) : l.Nodup := h.imp fun h e => by omega
theorem qb3 {had lot left : List Int} {C : Nat} (hl : LotOf lot C) (hr : ∀ x ∈ left,0 ≤ x ∧ x < (C : Int)) (hn : left.Nodup) : ∀ i,i ≤ left.length →
  (fillS had lot left i).left = left.filter (fun y => !(fillS had lot left i).elected.contains y) ∧ (fillS had lot left i).elected.Nodup ∧ (∀ x ∈ (fillS had lot left i).elected,x ∈ left) ∧
  (fillS had lot left i).elected.length = i ∧ (fillS had lot left i).left.length + i = left.length ∧ (fillS had lot left i).ties.length ≤ i
 | 0,_ => by
  refine ⟨?_,List.nodup_nil,fun x hx => absurd hx List.not_mem_nil,rfl,rfl,Nat.le_refl _⟩
  symm
  exact List.filter_eq_self.2 fun y _ => by simp [fillS]
 | i + 1, h => by
  obtain ⟨h1,h2,h3,h4,h5,h6⟩ := qb3 hl hr hn i (by omega)
  have hne : (fillS had lot left i).left ≠ [] := fun e => by rw [e] at h5;simp at h5;omega
  have hsub : ∀ x ∈ (fillS had lot left i).left,x ∈ left := fun x hx => by rw [h1] at hx;exact (List.mem_filter.1 hx).1
  obtain ⟨x0,hx0⟩ := List.exists_mem_of_ne_nil _ (bestL_ne (f := gI had) hne)
  have hx1 := hr _ (hsub _ (qak.1 hx0).1)
  have k1 := (qaw (lot := lot) ⟨x0,(hl.all _).2 hx1,hx0⟩).1
  have k2 := (qak.1 k1).1
  have hnd : (fillS had lot left i).left.Nodup := by rw [h1];exact hn.filter _
  have ht : (tieL (bestL (gI had) (fillS had lot left i).left) (firstL lot (bestL (gI had) (fillS had lot left i).left))).length ≤ 1 := by rw [tieL];split <;> simp
  simp only [fillS]
  revert k2 ht
  generalize firstL lot (bestL (gI had) (fillS had lot left i).left) = x
  intro k2 ht
  have k3 := k2
  rw [h1] at k3
  obtain ⟨k4,k5⟩ := List.mem_filter.1 k3
  have hlw := qb2 hnd k2
  refine ⟨?_,?_,?_,by simp [h4],by omega,by rw [List.length_append];omega⟩
  ·rw [h1, List.filter_filter]
   apply List.filter_congr
   intro y _
   simp only [List.contains_eq_any_beq,List.any_append,List.any_cons,List.any_nil,Bool.or_false,Bool.not_or]
   rw [Bool.and_comm]
  ·rw [List.nodup_append]
   refine ⟨h2,by simp,fun a ha b hb => ?_⟩
   rw [List.mem_singleton.1 hb]
   rintro rfl
   simp at k5
   exact k5 ha
  ·intro y hy
   rcases List.mem_append.1 hy with hy | hy
   ·exact h3 y hy
   ·rw [List.mem_singleton.1 hy];exact k4
theorem fill_all {had lot left : List Int} {C : Nat} (hl : LotOf lot C) (hr : ∀ x ∈ left,0 ≤ x ∧ x < (C : Int)) (hn : left.Nodup) : (fillS had lot left left.length).left = [] := by
 have := (qb3 (had := had) hl hr hn left.length (Nat.le_refl _)).2.2.2.2.1
 exact List.eq_nil_of_length_eq_zero (by omega)
theorem qba {lot : List Int} {C : Nat} (h : LotOf lot C) : LotOf lot.reverse C :=
 ⟨by rw [List.length_reverse,h.len],fun x => by rw [List.mem_reverse];exact h.all x,(List.reverse_perm lot).nodup_iff.2 h.nodup⟩
section
variable {σ : Type} {R : Rule σ} {seats C : Nat} {lot : List Int} {s : Sq σ}
theorem SqI.pick (h : SqI C seats s) {lot2 : List Int} (hl : LotOf lot2 C) {f : Int → Int} (hne : s.inn ≠ []) : firstL lot2 (bestL f s.inn) ∈ bestL f s.inn ∧ firstL lot2 (bestL f s.inn) ∈ s.inn := by
 obtain ⟨x0,hx0⟩ := List.exists_mem_of_ne_nil _ (bestL_ne (f := f) hne)
 have k1 := (qaw (lot := lot2) ⟨x0,(hl.all _).2 (h.rng _ (qak.1 hx0).1),hx0⟩).1
 exact ⟨k1,(qak.1 k1).1⟩
theorem SqI.ne (h : SqI C seats s) (h2 : s.el.length < seats) : s.inn ≠ [] := fun e => by have := h.enough;rw [e] at this;simp at this;omega
theorem tie_len (am : List Int) (x : Int) : (tieL am x).length ≤ 1 := by rw [tieL];split <;> simp
theorem SqI.step (hl : LotOf lot C) (h : SqI C seats s) (h2 : s.el.length < seats) : SqI C seats (step R seats lot s) := by
 have hne := h.ne h2
 have hn := qaz h.asc
 have hr := h.rounds
 have ht := h.ties
 have he := h.enough
 unfold Go.Proofs.YthcbkhfmdginiaaGreat.step
 split
 ·rename_i hf
  obtain ⟨f1,f2,f3,f4,f5,f6⟩ := qb3 (had := s.had R) hl h.rng hn s.inn.length (Nat.le_refl _)
  refine ⟨by simp,by simp,?_,?_,by simp,?_,?_,?_,?_⟩
  ·intro x hx
   rcases List.mem_append.1 hx with hx | hx
   ·exact h.els x hx
   ·exact h.rng x (f3 x hx)
  ·rw [List.nodup_append]
   exact ⟨h.elnd,f2,fun a ha b hb e => h.apart b (f3 b hb) (e ▸ ha)⟩
  ·simp only [List.length_append,List.length_nil];rw [Sq.fill,f4];omega
  ·simp only [List.length_append];rw [Sq.fill,f4];omega
  ·simp only [List.length_append, List.length_cons, List.length_nil]
   have : 0 < s.inn.length := List.length_pos_iff.2 hne
   omega
  ·simp only [List.length_append, List.length_nil]
   rw [Sq.fill];omega
 ·rename_i hf
  have hdrop : ∀ x ∈ s.inn,(∀ y ∈ s.inn.filter (fun y => !(y == x)),(0 ≤ y ∧ y < (C : Int)) ∧ y ∈ s.inn ∧ y ≠ x) ∧ (s.inn.filter (fun y => !(y == x))).Pairwise (fun a b => a < b) ∧ (s.inn.filter (fun y => !(y == x))).length + 1 = s.inn.length := fun x hx =>
   ⟨fun y hy => by
    obtain ⟨y1,y2⟩ := List.mem_filter.1 hy
    exact ⟨h.rng y y1,y1,by simpa using y2⟩,h.asc.filter _,qb2 hn hx⟩
  split
  ·obtain ⟨k1, k2⟩ := h.pick hl (f := gI (s.had R)) hne
   have htl := tie_len (s.best R) (firstL lot (s.best R))
   have k2' : firstL lot (s.best R) ∈ s.inn := k2
   generalize firstL lot (s.best R) = x at *
   obtain ⟨d1,d2,d3⟩ := hdrop x k2'
   refine ⟨fun y hy => (d1 y hy).1,d2,?_,?_,?_,?_,?_,?_,?_⟩
   ·intro y hy
    rcases List.mem_append.1 hy with hy | hy
    ·exact h.els y hy
    ·rw [List.mem_singleton.1 hy];exact h.rng x k2'
   ·rw [List.nodup_append]
    exact ⟨h.elnd,by simp,fun a ha b hb e => h.apart x k2' (by rw [List.mem_singleton.1 hb] at e;exact e ▸ ha)⟩
   ·intro y hy he
    rcases List.mem_append.1 he with he | he
    ·exact h.apart y (d1 y hy).2.1 he
    ·exact (d1 y hy).2.2 (List.mem_singleton.1 he)
   ·simp only [List.length_append,List.length_cons,List.length_nil];omega
   ·simp only [List.length_append,List.length_cons,List.length_nil];omega
   ·simp only [List.length_append,List.length_cons,List.length_nil];omega
   ·simp only [List.length_append];omega
  ·obtain ⟨k1, k2⟩ := h.pick (qba hl) (f := fun y => - gI (s.had R) y) hne
   have htl := tie_len (s.least R) (firstL lot.reverse (s.least R))
   have k2' : firstL lot.reverse (s.least R) ∈ s.inn := k2
   generalize firstL lot.reverse (s.least R) = x at *
   obtain ⟨d1,d2,d3⟩ := hdrop x k2'
   refine ⟨fun y hy => (d1 y hy).1,d2,h.els,h.elnd,fun y hy => h.apart y (d1 y hy).2.1,?_,h.most,?_,?_⟩
   ·simp only;omega
   ·simp only [List.length_append,List.length_cons,List.length_nil];omega
   ·simp only [List.length_append];omega
end
theorem rngI_asc2 (n : Nat) : (rngI n).Pairwise (fun a b => a < b) := by
 rw [rngI]
 exact (List.pairwise_map).2 (List.pairwise_lt_range.imp fun h => by simp only [Int.ofNat_eq_natCast];omega)
section
variable {σ : Type} {R : Rule σ} {seats C : Nat} {lot : List Int} {s0 : σ}
theorem run_inv (hl : LotOf lot C) (hs : seats ≤ C) : ∀ k,SqI C seats (run R seats lot s0 C k)
 | 0 => ⟨fun x hx => mem_rngI.1 hx,rngI_asc2 C,fun x hx => absurd hx List.not_mem_nil,List.nodup_nil,fun x _ => List.not_mem_nil,by simp only [run,qar];simp;omega,Nat.zero_le _,by simp [run,qar],by simp [run,qar]⟩
 | k + 1 => by
  have ih := run_inv hl hs k
  rw [run]
  split
  ·exact ih.step hl (by assumption)
  ·exact ih
theorem step_less (hl : LotOf lot C) {s : Sq σ} (h : SqI C seats s) (h2 : s.el.length < seats) : (step R seats lot s).inn.length < s.inn.length := by
 have hne := h.ne h2
 have hn := qaz h.asc
 have hp : 0 < s.inn.length := List.length_pos_iff.2 hne
 unfold step
 split
 ·simpa using hp
 ·split
  ·have := qb2 hn (h.pick hl (f := gI (s.had R)) hne).2
   show (s.inn.filter _).length < _
   rw [Sq.best];omega
  ·have := qb2 hn (h.pick (qba hl) (f := fun y => - gI (s.had R) y) hne).2
   show (s.inn.filter _).length < _
   rw [Sq.least];omega
theorem run_less (hl : LotOf lot C) (hs : seats ≤ C) : ∀ k,(run R seats lot s0 C k).el.length < seats → (run R seats lot s0 C k).inn.length + k ≤ C
 | 0,_ => by simp [run,qar]
 | k + 1, h => by
  rw [run] at h ⊢
  split at h
  ·rename_i hk
   rw [if_pos hk]
   have := run_less hl hs k hk
   have := step_less (R := R) hl (run_inv (R := R) (s0 := s0) hl hs k) hk
   omega
  ·rename_i hk;exact absurd h hk
theorem run_over (hl : LotOf lot C) (hs : seats ≤ C) : (run R seats lot s0 C C).el.length = seats := by
 have h := run_inv (R := R) (s0 := s0) hl hs C
 rcases Nat.lt_or_ge (run R seats lot s0 C C).el.length seats with h1 | h1
 ·have := run_less (R := R) (s0 := s0) hl hs C h1
  have h2 := h.enough
  omega
 ·have := h.most;omega
theorem run_stop {k : Nat} (h : ¬ (run R seats lot s0 C k).el.length < seats) : ∀ j,run R seats lot s0 C (k + j) = run R seats lot s0 C k
 | 0 => rfl
 | j + 1 => by rw [← Nat.add_assoc,run,run_stop h j,if_neg h]
theorem run_end (hl : LotOf lot C) (hs : seats ≤ C) {k : Nat} (h : ¬ (run R seats lot s0 C k).el.length < seats) : run R seats lot s0 C k = run R seats lot s0 C C := by
 rcases Nat.le_total k C with hk | hk
 ·obtain ⟨j, rfl⟩ := Nat.exists_eq_add_of_le hk
  exact (run_stop h j).symm
 ·obtain ⟨j, rfl⟩ := Nat.exists_eq_add_of_le hk
  exact run_stop (by rw [run_over hl hs];omega) j
end
end

section

structure GD (v1 v0 u U : Int) : Prop where
 c0 : 2147483648 ≤ v1
 c1 : v1 < 4294967296
 d0 : 0 ≤ v0
 d1 : v0 < 4294967296
 b0 : 0 ≤ u
 b1 : u < 4294967296
 n0 : 0 ≤ U
 n1 : U < v1 * 4294967296 + v0
structure GDI (v1 v0 u U q r : Int) : Prop where
 q0 : 0 ≤ q
 r0 : 0 ≤ r
 eq : q * v1 + r = U
 up : U * 4294967296 + u < (q + 1) * (v1 * 4294967296 + v0)
variable {v1 v0 u U q r : Int}
theorem GD.mulV (v1 v0 q : Int) : q * (v1 * 4294967296 + v0) = q * v1 * 4294967296 + q * v0 := by rw [Int.mul_add,Int.mul_assoc]
theorem GD.start (h : GD v1 v0 u U) : GDI v1 v0 u U (U / v1) (U % v1) := by
 have hv : 0 < v1 := by have := h.c0;omega
 have hd := Int.mul_ediv_add_emod U v1
 have hm0 := Int.emod_nonneg U (b := v1) (by omega)
 have hm1 := Int.emod_lt_of_pos U hv
 have hq0 : 0 ≤ U / v1 := Int.ediv_nonneg h.n0 (by omega)
 rw [Int.mul_comm] at hd
 generalize U / v1 = q at *
 generalize U % v1 = r at *
 refine ⟨hq0,hm0,hd,?_⟩
 rw [GD.mulV]
 have e : (q + 1) * v1 = q * v1 + v1 := by rw [Int.add_mul,Int.one_mul]
 have := Int.mul_nonneg (show 0 ≤ q + 1 by omega) h.d0
 have := h.b1
 rw [e]
 omega
theorem GDI.bound (h : GD v1 v0 u U) (g : GDI v1 v0 u U q r) : q ≤ 8589934591 := by
 rcases Int.lt_or_le q 8589934592 with h1 | h1
 ·omega
 ·have h2 := Int.mul_le_mul h1 h.c0 (by omega) g.q0
  have := g.eq;have := g.r0;have := h.n1;have := h.c1;have := h.d1
  omega
theorem GD.step (h : GD v1 v0 u U) (g : GDI v1 v0 u U q r) (ht : 4294967296 ≤ q ∨ r * 4294967296 + u < q * v0) : GDI v1 v0 u U (q - 1) (r + v1) ∧ 1 ≤ q := by
 have hq1 : 1 ≤ q := by
  rcases ht with ht | ht
  ·omega
  ·rcases Int.lt_or_le 0 q with h1 | h1
   ·omega
   ·obtain rfl : q = 0 := by have := g.q0; omega
    rw [Int.zero_mul] at ht
    have := g.r0;have := h.b0;omega
 refine ⟨⟨by omega,by have := g.r0;have := h.c0;omega,?_,?_⟩,hq1⟩
 ·have := g.eq
  rw [Int.sub_mul,Int.one_mul];omega
 ·rw [show q - 1 + 1 = q by omega]
  rcases ht with ht | ht
  ·have h2 := Int.mul_le_mul_of_nonneg_right ht (show 0 ≤ v1 * 4294967296 + v0 by have := h.c0; have := h.d0; omega)
   have := h.n1;have := h.b1
   omega
  ·rw [GD.mulV]
   have := g.eq
   omega
theorem GD.over (h : GD v1 v0 u U) (g : GDI v1 v0 u U q r) (ht : q * v0 ≤ r * 4294967296 + u) : q = (U * 4294967296 + u) / (v1 * 4294967296 + v0) ∧ U * 4294967296 + u - q * (v1 * 4294967296 + v0) < v1 * 4294967296 + v0 ∧ 0 ≤ U * 4294967296 + u - q * (v1 * 4294967296 + v0) ∧ q < 4294967296 := by
 have hV : 0 < v1 * 4294967296 + v0 := by have := h.c0;have := h.d0;omega
 have hlo : q * (v1 * 4294967296 + v0) ≤ U * 4294967296 + u := by
  rw [GD.mulV];have := g.eq;omega
 have hup := g.up
 have e : (q + 1) * (v1 * 4294967296 + v0) = q * (v1 * 4294967296 + v0) + (v1 * 4294967296 + v0) := by rw [Int.add_mul,Int.one_mul]
 refine ⟨?_,by omega,by omega,?_⟩
 ·have k1 := (Int.le_ediv_iff_mul_le hV).2 hlo
  have k2 := (Int.ediv_lt_iff_lt_mul hV).2 hup
  omega
 ·rcases Int.lt_or_le q 4294967296 with h1 | h1
  ·exact h1
  ·have h2 := Int.mul_le_mul_of_nonneg_right h1 (Int.le_of_lt hV)
   have := h.n1;have := h.b1
   omega
theorem GD.brk (h : GD v1 v0 u U) (g : GDI v1 v0 u U q r) (hr : 4294967296 ≤ r) : q * v0 ≤ r * 4294967296 + u := by
 have hq : q < 4294967296 := by
  rcases Int.lt_or_le q 4294967296 with h1 | h1
  ·exact h1
  ·have h2 := Int.mul_le_mul_of_nonneg_right h1 (show 0 ≤ v1 by have := h.c0; omega)
   have := g.eq;have := h.n1;have := h.d1
   omega
 have h2 := Int.mul_le_mul_of_nonneg_right (show q ≤ 4294967296 by omega) h.d0
 have := h.d1;have := h.b0
 omega
theorem two_digits {N y s : Nat} {v1 v0 u1 u0 U q1 q0 : Int} (hy : 0 < y) (hV : ((y * 2 ^ s : Nat) : Int) = v1 * 4294967296 + v0) (hU : ((N * 2 ^ s : Nat) : Int) = (U * 4294967296 + u1) * 4294967296 + u0)
  (_ : 0 ≤ U * 4294967296 + u1 - q1 * (v1 * 4294967296 + v0)) (_ : U * 4294967296 + u1 - q1 * (v1 * 4294967296 + v0) < v1 * 4294967296 + v0)
  (h2lo : 0 ≤ (U * 4294967296 + u1 - q1 * (v1 * 4294967296 + v0)) * 4294967296 + u0 - q0 * (v1 * 4294967296 + v0)) (h2hi : (U * 4294967296 + u1 - q1 * (v1 * 4294967296 + v0)) * 4294967296 + u0 - q0 * (v1 * 4294967296 + v0) < v1 * 4294967296 + v0) :
  q1 * 4294967296 + q0 = ((N / y : Nat) : Int) ∧ ((U * 4294967296 + u1 - q1 * (v1 * 4294967296 + v0)) * 4294967296 + u0 - q0 * (v1 * 4294967296 + v0)) = (((N % y) * 2 ^ s : Nat) : Int) := by
 have hp : 0 < 2 ^ s := Nat.two_pow_pos s
 have hVp : 0 < y * 2 ^ s := Nat.mul_pos hy hp
 obtain ⟨R,hR⟩ : ∃ R : Int,(U * 4294967296 + u1 - q1 * (v1 * 4294967296 + v0)) * 4294967296 + u0 - q0 * (v1 * 4294967296 + v0) = R := ⟨_,rfl⟩
 rw [hR] at h2lo h2hi ⊢
 obtain ⟨Q,hQ⟩ : ∃ Q : Int,q1 * 4294967296 + q0 = Q := ⟨_,rfl⟩
 have hN : ((N * 2 ^ s : Nat) : Int) = ((y * 2 ^ s : Nat) : Int) * Q + R := by
  rw [hU,hV,← hR,← hQ]
  grind
 have hQ2 : Q = ((N * 2 ^ s : Nat) : Int) / ((y * 2 ^ s : Nat) : Int) := by
  rw [hN,Int.add_comm,Int.add_mul_ediv_left _ _ (by omega),Int.ediv_eq_zero_of_lt h2lo (by rw [hV];exact h2hi)]
  omega
 have hR2 : R = ((N * 2 ^ s : Nat) : Int) % ((y * 2 ^ s : Nat) : Int) := by
  rw [hN,Int.add_comm,Int.add_mul_emod_self_left,Int.emod_eq_of_lt h2lo (by rw [hV];exact h2hi)]
 have e1 : N * 2 ^ s / (y * 2 ^ s) = N / y := Nat.mul_div_mul_right _ _ hp
 have e2 : N * 2 ^ s % (y * 2 ^ s) = N % y * 2 ^ s := Nat.mul_mod_mul_right _ _ _
 constructor
 ·rw [hQ,hQ2,← Int.natCast_ediv,e1]
 ·rw [hR2,← Int.natCast_emod,e2]
end

section
open Go Go.RowKit Go.Shelf Limb

theorem lead64 (x : Nat) (h0 : x ≠ 0) (h1 : x < 18446744073709551616) : ∃ s : Nat,(64 : Int) - (Go.Lib.bitLen x : Int) = (s : Int) ∧ s < 64 ∧ 9223372036854775808 ≤ x * 2 ^ s ∧ x * 2 ^ s < 18446744073709551616 := by
 obtain ⟨a1,a2,a3⟩ := bitLen_two x h0 (by omega)
 have a4 : Go.Lib.bitLen x ≤ 64 := Go.Lib.bitLen_le x 64 (by omega) (by omega)
 generalize Go.Lib.bitLen x = b at *
 refine ⟨64 - b,by omega,by omega,?_,?_⟩
 ·have := Nat.mul_le_mul_right (2 ^ (64 - b)) a3
  rw [← Nat.pow_add,show b - 1 + (64 - b) = 63 by omega] at this
  exact this
 ·have := Nat.mul_le_mul_right (2 ^ (64 - b)) (Nat.succ_le_of_lt a2)
  rw [← Nat.pow_add,show b + (64 - b) = 64 by omega,Nat.succ_mul] at this
  have := Nat.two_pow_pos (64 - b)
  omega
theorem low32 (L : Nat) (hL : L < 18446744073709551616) : bits .and .u64 (L : Int) 4294967295 = ((L % 4294967296 : Nat) : Int) := by
 have h := u64_and_nat L 4294967295 hL (by omega)
 have e : L &&& 4294967295 = L % 4294967296 := Nat.and_two_pow_sub_one_eq_mod L 32
 rw [e] at h
 exact h
theorem norm64 (hi lo y s : Nat) (hy : hi < y) (hl : lo < 18446744073709551616) (hs : s < 64) (h1 : y * 2 ^ s < 18446744073709551616) :
  ∃ U L : Nat,bits .or .u64 (IntKind.u64.wrap ((hi : Int) * 2 ^ s)) ((lo : Int) / 2 ^ (64 - s)) = (U : Int) ∧ IntKind.u64.wrap ((lo : Int) * 2 ^ s) = (L : Int) ∧ L < 18446744073709551616 ∧ (hi * 18446744073709551616 + lo) * 2 ^ s = U * 18446744073709551616 + L ∧ U < y * 2 ^ s := by
 have hp := Nat.two_pow_pos s
 have e64 : (18446744073709551616 : Nat) = 2 ^ (64 - s) * 2 ^ s := by rw [← Nat.pow_add,show 64 - s + s = 64 by omega]
 have hhi : hi * 2 ^ s < 18446744073709551616 := Nat.lt_trans (Nat.mul_lt_mul_of_pos_right hy hp) h1
 have hc : lo / 2 ^ (64 - s) < 2 ^ s := by
  rw [Nat.div_lt_iff_lt_mul (Nat.two_pow_pos _),Nat.mul_comm,← e64];exact hl
 have hor : hi * 2 ^ s ||| lo / 2 ^ (64 - s) = hi * 2 ^ s + lo / 2 ^ (64 - s) := by
  have := Nat.shiftLeft_add_eq_or_of_lt hc hi
  rw [Nat.shiftLeft_eq] at this
  exact this.symm
 have hdl : lo / 2 ^ (64 - s) < 18446744073709551616 := Nat.lt_of_le_of_lt (Nat.div_le_self _ _) hl
 have hdm := Nat.div_add_mod (lo * 2 ^ s) 18446744073709551616
 have hde : lo * 2 ^ s / 18446744073709551616 = lo / 2 ^ (64 - s) := by rw [e64];exact Nat.mul_div_mul_right _ _ hp
 rw [hde] at hdm
 have hml := Nat.mod_lt (lo * 2 ^ s) (show 0 < 18446744073709551616 by omega)
 have hN : (hi * 18446744073709551616 + lo) * 2 ^ s = (hi * 2 ^ s + lo / 2 ^ (64 - s)) * 18446744073709551616 + lo * 2 ^ s % 18446744073709551616 := by
  rw [Nat.add_mul,Nat.add_mul,Nat.mul_right_comm]
  omega
 refine ⟨hi * 2 ^ s + lo / 2 ^ (64 - s),lo * 2 ^ s % 18446744073709551616,?_,?_,hml,hN,?_⟩
 ·have e1 : ((hi : Int) * 2 ^ s) = ((hi * 2 ^ s : Nat) : Int) := by simp
  have e2 : ((lo : Int) / 2 ^ (64 - s)) = ((lo / 2 ^ (64 - s) : Nat) : Int) := by simp
  rw [e1,e2,qa5 (by omega) (by omega),u64_or_nat _ _ hhi hdl,hor]
 ·have e1 : ((lo : Int) * 2 ^ s) = ((lo * 2 ^ s : Nat) : Int) := by simp
  rw [e1]
  simp only [IntKind.wrap,IntKind.bits,IntKind.signed]
  simp
 ·have h2 : (hi * 18446744073709551616 + lo) * 2 ^ s < y * 18446744073709551616 * 2 ^ s := Nat.mul_lt_mul_of_pos_right (by omega) hp
  rw [hN,Nat.mul_right_comm] at h2
  omega
theorem wrap_off {a b c d : Int} (h : a * 4294967296 + b - c = d) (h0 : 0 ≤ d) (h1 : d < 18446744073709551616) : IntKind.u64.wrap (IntKind.u64.wrap (IntKind.u64.wrap (a * 4294967296) + b) - IntKind.u64.wrap c) = d := by
 simp only [IntKind.wrap,IntKind.bits,IntKind.signed]
 simp
 omega
set_option maxHeartbeats 4000000 in
set_option maxRecDepth 100000 in
theorem div64 (hi lo y : Nat) (w : World) (hy : hi < y) (hl : lo < 18446744073709551616) (hy2 : y < 18446744073709551616) :
  Calls Tryz.prog 190 #[.int .u64 hi,.int .u64 lo,.int .u64 y] w fun e w' => e = .returned (.tuple #[.int .u64 ((hi * 18446744073709551616 + lo) / y : Nat),.int .u64 ((hi * 18446744073709551616 + lo) % y : Nat)]) ∧ Below w.heap.size w w' := by
 have hy0 : ¬ (y : Int) = 0 := by omega
 have hy1 : ¬ (y : Int) ≤ (hi : Int) := by omega
 have hb0 : ((y : Int) == 0) = false := beq_eq_false_iff_ne.2 hy0
 by_cases h0 : hi = 0
 ·subst h0
  have hq3 := Nat.div_le_self lo y
  obtain ⟨Q,hQ⟩ : ∃ Q : Nat,lo / y = Q := ⟨_,rfl⟩
  obtain ⟨R,hR⟩ : ∃ R : Nat,lo % y = R := ⟨_,rfl⟩
  have hq : ((lo : Int).tdiv y) = (Q : Int) := by rw [Int.tdiv_eq_ediv_of_nonneg (by omega),← hQ];simp
  have hr : ((lo : Int).tmod y) = (R : Int) := by rw [Int.tmod_eq_emod_of_nonneg (by omega),← hR];simp
  have hq1 : (lo : Int) / (y : Int) = (Q : Int) := by rw [← hQ];simp
  have hr1 : (lo : Int) % (y : Int) = (R : Int) := by rw [← hR];simp
  have hq2 : IntKind.u64.wrap (Q : Int) = (Q : Int) := qa5 (by omega) (by omega)
  rw [Nat.zero_mul,Nat.zero_add,hQ,hR]
  clear hQ hR hq3
  go_enter Tryz.func190,Tryz.ntmps190
  go_wp2
  refine qa3 (by kernel_rfl) (by kernel_rfl) ?_
  repeat (go_big_quiet_step (fail))
  refine wpQuiet_nil ?_
  intro _ hw';obtain ⟨p,rfl⟩ := hw'
  go_wp2
  go_ret2
  exact ⟨rfl,qa4 w p⟩
 ·obtain ⟨s, hs, hs1, hs2, hs3⟩ := lead64 y (by omega) hy2
  have hz := fun W => Tryz.bits_LeadingZeros64 (y : Int) W (by omega) (by omega)
  simp only [Int.toNat_natCast,hs] at hz
  obtain ⟨QQ,hQQ⟩ : ∃ x,(hi * 18446744073709551616 + lo) / y = x := ⟨_,rfl⟩
  obtain ⟨RR,hRR⟩ : ∃ x,(hi * 18446744073709551616 + lo) % y = x := ⟨_,rfl⟩
  rw [hQQ,hRR]
  have HQQ := Lib.hid hQQ;have HRR := Lib.hid hRR
  clear hQQ hRR
  have hh0 : ((hi : Int) == 0) = false := beq_eq_false_iff_ne.2 (by omega)
  obtain ⟨U,L,hU,hL,hLl,hN,hUY⟩ := norm64 hi lo y s hy hl hs1 hs3
  have hVw : IntKind.u64.wrap ((y : Int) * 2 ^ s) = ((y * 2 ^ s : Nat) : Int) := by
   have e1 : ((y : Int) * 2 ^ s) = ((y * 2 ^ s : Nat) : Int) := by simp
   rw [e1];exact qa5 (by omega) (by omega)
  have hVa := low32 (y * 2 ^ s) hs3
  have hLa := low32 L hLl
  obtain ⟨V,hV⟩ : ∃ V,y * 2 ^ s = V := ⟨_,rfl⟩
  rw [hV] at hVw hVa hs2 hs3 hUY
  obtain ⟨v1,hv1⟩ : ∃ v,V / 4294967296 = v := ⟨_,rfl⟩
  obtain ⟨v0,hv0⟩ : ∃ v,V % 4294967296 = v := ⟨_,rfl⟩
  obtain ⟨u1,hu1⟩ : ∃ v,L / 4294967296 = v := ⟨_,rfl⟩
  obtain ⟨u0,hu0⟩ : ∃ v,L % 4294967296 = v := ⟨_,rfl⟩
  rw [hv0] at hVa
  rw [hu0] at hLa
  have hVd : (V : Int) / 4294967296 = (v1 : Int) := by omega
  have hLd : (L : Int) / 4294967296 = (u1 : Int) := by omega
  have hVe : (V : Int) = v1 * 4294967296 + v0 := by omega
  have hLe : (L : Int) = u1 * 4294967296 + u0 := by omega
  have G1 : GD v1 v0 u1 U := ⟨by omega,by omega,by omega,by omega,by omega,by omega,by omega,by omega⟩
  have hst := G1.start
  have hbd := hst.bound G1
  obtain ⟨q,hq⟩ : ∃ q,(U : Int) / (v1 : Int) = q := ⟨_,rfl⟩
  obtain ⟨r,hr⟩ : ∃ r,(U : Int) % (v1 : Int) = r := ⟨_,rfl⟩
  rw [hq,hr] at hst
  rw [hq] at hbd
  have hr1 : r < v1 := by rw [← hr];exact Int.emod_lt_of_pos _ (by omega)
  have hqw := qa5 hst.q0 (by omega)
  have hv10 : ((v1 : Int) == 0) = false := beq_eq_false_iff_ne.2 (by omega)
  have hv11 : ¬ v1 = 0 := by omega
  obtain ⟨qv,hqv⟩ : ∃ x,q * (v1 : Int) = x := ⟨_,rfl⟩
  have hqe := hst.eq
  rw [hqv] at hqe
  have hqv0 : 0 ≤ qv := by rw [← hqv];exact Int.mul_nonneg hst.q0 (by omega)
  have hqvw := qa5 hqv0 (by have := hst.r0;omega)
  have hrw : IntKind.u64.wrap ((U : Int) - qv) = r := by rw [show (U : Int) - qv = r by omega];exact qa5 hst.r0 (by omega)
  have HZ := Lib.hid hz;have HG1 := Lib.hid G1;have Hst := Lib.hid hst;have HN := Lib.hid hN;have HVe := Lib.hid hVe;have HLe := Lib.hid hLe;have HV := Lib.hid hV
  clear hz G1 hst hN hVe hLe hV hv1 hv0 hu1 hu0 hr hqe hLl hs
  go_enter Tryz.func190,Tryz.ntmps190
  go_upto_block 0 with (go_at_call 218;refine (HZ.out _).mono ?_;rintro e w' ⟨rfl,e1⟩;obtain rfl := e1.symm;clear e1)
  go_cut [15,16] from 67 to 86 (fun s15 _ wc => wc = w ∧ ∃ q : Int,s15 = .int .u64 q ∧ Hid ((q = ((U : Int) * 4294967296 + u1) / (v1 * 4294967296 + v0) ∧ (U : Int) * 4294967296 + u1 - q * (v1 * 4294967296 + v0) < v1 * 4294967296 + v0 ∧ 0 ≤ (U : Int) * 4294967296 + u1 - q * (v1 * 4294967296 + v0) ∧ q < 4294967296) ∧ 0 ≤ q))
  case first =>
   go_wp2_with fail
   go_loopw [15,16] (fun qv rv wr => ∃ q r : Int,qv = .int .u64 q ∧ rv = .int .u64 r ∧ Hid (GDI v1 v0 u1 U q r) ∧ 0 ≤ q ∧ q ≤ 8589934591 ∧ 0 ≤ r ∧ r < 4294967296 ∧ wr = w) (fun qv _ _ => (intOf qv).toNat)
   case atStart => exact ⟨_,_,rfl,rfl,Hst,Hst.out.q0,by omega,Hst.out.r0,by omega,rfl⟩
   case round =>
    obtain ⟨q,r,rfl,rfl,hg,hq0,hq1,hr0,hr1,rfl⟩ := hrel
    have n1 := qa5 (x := r + v1) (by omega) (by omega)
    by_cases hbig : 4294967296 ≤ q
    ·obtain ⟨hg2, hq2⟩ := HG1.out.step hg.out (.inl hbig)
     have n2 := qa5 (x := q - 1) (by omega) (by omega)
     have hge : q ≥ 4294967296 := hbig
     by_cases hbr : 4294967296 ≤ r + v1
     ·have hov := HG1.out.over hg2 (HG1.out.brk hg2 hbr)
      have Hov := Lib.hid hov;have Hg2 := Lib.hid hg2
      have hger : r + v1 ≥ 4294967296 := hbr
      clear hov hg2
      go_wp2
      go_meet
      exact ⟨rfl,_,rfl,Lib.hid ⟨Hov.out,Hg2.out.q0⟩⟩
     ·have hger : ¬ r + v1 ≥ 4294967296 := hbr
      have Hg2 := Lib.hid hg2
      clear hg2
      go_wp2
      exact ⟨⟨_,_,rfl,rfl,Hg2,Hg2.out.q0,by omega,Hg2.out.r0,by omega,(by first | rfl | trivial)⟩,by simp [intOf];omega⟩
    ·have hge : ¬ q ≥ 4294967296 := hbig
     have hm0 : 0 ≤ q * v0 := Int.mul_nonneg hq0 (by omega)
     have hm1 : q * v0 ≤ 4294967295 * v0 := Int.mul_le_mul_of_nonneg_right (by omega) (by omega)
     obtain ⟨m,hm⟩ : ∃ m,q * (v0 : Int) = m := ⟨_,rfl⟩
     have ht0 := HG1.out.step hg.out
     have ho0 := HG1.out.over hg.out
     rw [hm] at hm0 hm1 ht0 ho0
     have n3 := qa5 (x := m) hm0 (by have := HG1.out.d1;omega)
     have n4 := qa5 (x := 4294967296 * r) (by omega) (by omega)
     have hub := HG1.out.b1
     have hub0 := HG1.out.b0
     have n5 := qa5 (x := 4294967296 * r + u1) (by omega) (by omega)
     by_cases ht : r * 4294967296 + u1 < m
     ·obtain ⟨hg2, hq2⟩ := ht0 (.inr ht)
      have n2 := qa5 (x := q - 1) (by omega) (by omega)
      have hgt : m > 4294967296 * r + u1 := by omega
      by_cases hbr : 4294967296 ≤ r + v1
      ·have hov := HG1.out.over hg2 (HG1.out.brk hg2 hbr)
       have Hov := Lib.hid hov;have Hg2 := Lib.hid hg2
       have hger : r + v1 ≥ 4294967296 := hbr
       clear hov hg2 ht0 ho0 hm1
       go_wp2
       go_meet
       exact ⟨rfl,_,rfl,Lib.hid ⟨Hov.out,Hg2.out.q0⟩⟩
      ·have hger : ¬ r + v1 ≥ 4294967296 := hbr
       have Hg2 := Lib.hid hg2
       clear hg2 ht0 ho0 hm1
       go_wp2
       exact ⟨⟨_,_,rfl,rfl,Hg2,Hg2.out.q0,by omega,Hg2.out.r0,by omega,(by first | rfl | trivial)⟩,by simp [intOf];omega⟩
     ·have hgt : ¬ m > 4294967296 * r + u1 := by omega
      have hov := ho0 (by omega)
      have Hov := Lib.hid hov
      clear hov ht0 ho0 hm1
      go_wp2
      go_meet
      exact ⟨rfl,_,rfl,Lib.hid ⟨Hov.out,hg.out.q0⟩⟩
  case rest =>
   obtain ⟨ewc,q1,rfl,hR1⟩ := hcut
   obtain rfl := ewc.symm
   obtain ⟨⟨k1,k2,k3,k4⟩,k5⟩ := hR1.out
   have hVe := HVe.out
   obtain ⟨U2,hU2⟩ : ∃ x,(U : Int) * 4294967296 + u1 - q1 * (v1 * 4294967296 + v0) = x := ⟨_,rfl⟩
   have G1 := HG1.out
   have hb2 := G1.b0;have hb3 := G1.b1
   have hLe := HLe.out
   rw [hU2] at k2 k3
   rw [← hVe] at hU2
   have hwo := wrap_off (a := U) (b := u1) (c := q1 * V) (d := U2) hU2 k3 (by omega)
   have G2 : GD v1 v0 u0 U2 := ⟨G1.c0,G1.c1,G1.d0,G1.d1,by omega,by omega,k3,k2⟩
   have hst := G2.start
   have hbd := hst.bound G2
   obtain ⟨q,hq⟩ : ∃ q,U2 / (v1 : Int) = q := ⟨_,rfl⟩
   obtain ⟨r,hr⟩ : ∃ r,U2 % (v1 : Int) = r := ⟨_,rfl⟩
   rw [hq,hr] at hst
   rw [hq] at hbd
   have hqt : U2.tdiv (v1 : Int) = q := by rw [Int.tdiv_eq_ediv_of_nonneg k3];exact hq
   have hr1 : r < v1 := by rw [← hr];exact Int.emod_lt_of_pos _ (by omega)
   have hqw := qa5 hst.q0 (by omega)
   obtain ⟨qv,hqv⟩ : ∃ x,q * (v1 : Int) = x := ⟨_,rfl⟩
   have hqe := hst.eq
   rw [hqv] at hqe
   have hqv0 : 0 ≤ qv := by rw [← hqv];exact Int.mul_nonneg hst.q0 (by omega)
   have hqvw := qa5 hqv0 (by have := hst.r0;omega)
   have hrw : IntKind.u64.wrap (U2 - qv) = r := by rw [show U2 - qv = r by omega];exact qa5 hst.r0 (by omega)
   have HG2 := Lib.hid G2;have Hst2 := Lib.hid hst;have HU2 := Lib.hid hU2;have HVe' := Lib.hid hVe;have K2 := Lib.hid k2;have K3 := Lib.hid k3
   clear G1 G2 hst hU2 hVe hLe hr hqe k1 k2 k3 hR1 Hst
   go_upto_block 2 with fail
   go_cut [16,18] from 102 to 121 (fun _ s18 wc => wc = w ∧ ∃ q : Int,s18 = .int .u64 q ∧ Hid ((q = (U2 * 4294967296 + u0) / (v1 * 4294967296 + v0) ∧ U2 * 4294967296 + u0 - q * (v1 * 4294967296 + v0) < v1 * 4294967296 + v0 ∧ 0 ≤ U2 * 4294967296 + u0 - q * (v1 * 4294967296 + v0) ∧ q < 4294967296) ∧ 0 ≤ q))
   case first =>
    go_wp2_with fail
    go_loopw [16,18] (fun rv qv wr => ∃ q r : Int,qv = .int .u64 q ∧ rv = .int .u64 r ∧ Hid (GDI v1 v0 u0 U2 q r) ∧ 0 ≤ q ∧ q ≤ 8589934591 ∧ 0 ≤ r ∧ r < 4294967296 ∧ wr = w) (fun _ qv _ => (intOf qv).toNat)
    case atStart => exact ⟨_,_,rfl,rfl,Hst2,Hst2.out.q0,by omega,Hst2.out.r0,by omega,rfl⟩
    case round =>
     obtain ⟨q,r,rfl,rfl,hg,hq0,hq1,hr0,hr1,rfl⟩ := hrel
     have n1 := qa5 (x := r + v1) (by omega) (by omega)
     by_cases hbig : 4294967296 ≤ q
     ·obtain ⟨hg2, hq2⟩ := HG2.out.step hg.out (.inl hbig)
      have n2 := qa5 (x := q - 1) (by omega) (by omega)
      have hge : q ≥ 4294967296 := hbig
      by_cases hbr : 4294967296 ≤ r + v1
      ·have hov := HG2.out.over hg2 (HG2.out.brk hg2 hbr)
       have Hov := Lib.hid hov;have Hg2 := Lib.hid hg2
       have hger : r + v1 ≥ 4294967296 := hbr
       clear hov hg2
       go_wp2
       go_meet
       exact ⟨rfl,_,rfl,Lib.hid ⟨Hov.out,Hg2.out.q0⟩⟩
      ·have hger : ¬ r + v1 ≥ 4294967296 := hbr
       have Hg2 := Lib.hid hg2
       clear hg2
       go_wp2
       exact ⟨⟨_,_,rfl,rfl,Hg2,Hg2.out.q0,by omega,Hg2.out.r0,by omega,(by first | rfl | trivial)⟩,by simp [intOf];omega⟩
     ·have hge : ¬ q ≥ 4294967296 := hbig
      have hm0 : 0 ≤ q * v0 := Int.mul_nonneg hq0 (by omega)
      have hm1 : q * v0 ≤ 4294967295 * v0 := Int.mul_le_mul_of_nonneg_right (by omega) (by omega)
      obtain ⟨m,hm⟩ : ∃ m,q * (v0 : Int) = m := ⟨_,rfl⟩
      have ht0 := HG2.out.step hg.out
      have ho0 := HG2.out.over hg.out
      rw [hm] at hm0 hm1 ht0 ho0
      have n3 := qa5 (x := m) hm0 (by have := HG2.out.d1;omega)
      have n4 := qa5 (x := 4294967296 * r) (by omega) (by omega)
      have hub := HG2.out.b1
      have hub0 := HG2.out.b0
      have n5 := qa5 (x := 4294967296 * r + u0) (by omega) (by omega)
      by_cases ht : r * 4294967296 + u0 < m
      ·obtain ⟨hg2, hq2⟩ := ht0 (.inr ht)
       have n2 := qa5 (x := q - 1) (by omega) (by omega)
       have hgt : m > 4294967296 * r + u0 := by omega
       by_cases hbr : 4294967296 ≤ r + v1
       ·have hov := HG2.out.over hg2 (HG2.out.brk hg2 hbr)
        have Hov := Lib.hid hov;have Hg2 := Lib.hid hg2
        have hger : r + v1 ≥ 4294967296 := hbr
        clear hov hg2 ht0 ho0 hm1
        go_wp2
        go_meet
        exact ⟨rfl,_,rfl,Lib.hid ⟨Hov.out,Hg2.out.q0⟩⟩
       ·have hger : ¬ r + v1 ≥ 4294967296 := hbr
        have Hg2 := Lib.hid hg2
        clear hg2 ht0 ho0 hm1
        go_wp2
        exact ⟨⟨_,_,rfl,rfl,Hg2,Hg2.out.q0,by omega,Hg2.out.r0,by omega,(by first | rfl | trivial)⟩,by simp [intOf];omega⟩
      ·have hgt : ¬ m > 4294967296 * r + u0 := by omega
       have hov := ho0 (by omega)
       have Hov := Lib.hid hov
       clear hov ht0 ho0 hm1
       go_wp2
       go_meet
       exact ⟨rfl,_,rfl,Lib.hid ⟨Hov.out,hg.out.q0⟩⟩
   case rest =>
    obtain ⟨ewc,q0,rfl,hR2⟩ := hcut
    obtain rfl := ewc.symm
    obtain ⟨⟨j1,j2,j3,j4⟩,j5⟩ := hR2.out
    have h1lo := K3.out;have h1hi := K2.out
    have hU2 := HU2.out
    have hVe := HVe'.out
    have hLe := HLe.out
    have hNe : (((hi * 18446744073709551616 + lo) * 2 ^ s : Nat) : Int) = ((U : Int) * 4294967296 + u1) * 4294967296 + u0 := by rw [HN.out];omega
    have hVn : ((y * 2 ^ s : Nat) : Int) = (v1 : Int) * 4294967296 + v0 := by rw [HV.out];exact hVe
    have hU3 : (U : Int) * 4294967296 + u1 - q1 * ((v1 : Int) * 4294967296 + v0) = U2 := by rw [← hVe];exact hU2
    obtain ⟨t1,t2⟩ := two_digits (N := hi * 18446744073709551616 + lo) (y := y) (s := s) (v1 := v1) (v0 := v0) (u1 := u1) (u0 := u0) (U := U) (q1 := q1) (q0 := q0) (by omega) hVn hNe (by rw [hU3];exact h1lo) (by rw [hU3];exact h1hi) (by rw [hU3];exact j3) (by rw [hU3];exact j2)
    rw [hU3] at t2
    rw [← hVe] at t2 j2 j3
    rw [HQQ.out] at t1
    rw [HRR.out] at t2
    have n1 := qa5 (x := q1 * 4294967296) (by omega) (by omega)
    have n2 := qa5 (x := q1 * 4294967296 + q0) (by omega) (by omega)
    have n3 := wrap_off (a := U2) (b := u0) (c := q0 * V) (d := ((RR * 2 ^ s : Nat) : Int)) t2 (by omega) (by rw [← t2];omega)
    have n4 : ((RR * 2 ^ s : Nat) : Int) / 2 ^ s = (RR : Int) := by
     have e1 : ((RR * 2 ^ s : Nat) : Int) / 2 ^ s = ((RR * 2 ^ s / 2 ^ s : Nat) : Int) := by simp
     rw [e1,Nat.mul_div_cancel _ (Nat.two_pow_pos s)]
    replace n2 := n2.trans t1
    obtain ⟨Z,hZ⟩ : ∃ Z : Nat,RR * 2 ^ s = Z := ⟨_,rfl⟩
    rw [hZ] at n3 n4
    have T1 := Lib.hid t1
    clear t1 t2 hZ hU3 hVn hNe hLe hVe hU2 h1lo h1hi j1 j2 j3 j4 j5 hR2 k4 k5 hqw hqvw hrw hqv0 hqv hq hbd hr1
    go_wp2
    go_ret2
    exact ⟨rfl,Below.refl _ _⟩
end

section

def nextI (inn marks : List Int) : Option Int := marks.find? fun x => inn.contains x
abbrev RV := List (Row × Int)
def cntG (inn : List Int) (rv : RV) (x : Int) : Int := (rv.map fun p => if nextI inn p.1.marks = some x then p.1.many * p.2 else 0).sum
def greF (Q : Int) (rv : RV) (inn el : List Int) (x : Nat) : Int := if el.contains (x : Int) then Q else cntG inn rv x
def greH (C : Nat) (Q : Int) (rv : RV) (inn el : List Int) : List Int := fl C (greF Q rv inn el)
def greL (C : Nat) (Q votes : Int) (rv : RV) (inn el : List Int) : Int := max (votes * 1000000000 - (greH C Q rv inn el).sum) 0
def passG (inn : List Int) (Q x n : Int) (p : Row × Int) : Row × Int := if nextI inn p.1.marks = some x then (p.1,p.2 * (n - Q) / n) else p
def greR (C : Nat) (Q votes : Int) : Rule RV where
 had := greH C Q
 lost := greL C Q votes
 reach := fun rv inn el => inn.any fun x => decide (Q ≤ gI (greH C Q rv inn el) x)
 win := fun rv inn el x => rv.map (passG inn Q x (gI (greH C Q rv inn el) x))
 out := fun rv _ _ _ => rv
def markS (rows : List Row) : Int := ((rows.filter fun r => !r.marks.isEmpty).map Row.many).sum
def droop (votes seats : Int) : Int := votes / (seats + 1) + 1
def greQ (p : Prof) (seats : Nat) : Int := droop (markS p.rows) seats * 1000000000
def greS (p : Prof) (seats : Nat) (lot : List Int) (k : Nat) : Sq RV := run (greR p.cands.toNat (greQ p seats) (markS p.rows)) seats lot (p.rows.map fun r => (r,1000000000)) p.cands.toNat k
def rankI (p : Prof) (seats : Int) (lot : List Int) : Int := countI p 1 seats p.cands lot
theorem nextI_mem {inn marks : List Int} {x : Int} (h : nextI inn marks = some x) : x ∈ inn ∧ x ∈ marks := by
 have h1 := List.find?_some h
 exact ⟨by simpa using h1,List.mem_of_find?_eq_some h⟩
end

section
open Go Go.RowKit Go.Shelf Limb

def inB2 (n lo hi : Int) : Bool := decide (lo ≤ n) && decide (n ≤ hi)
theorem quoWithin (n lo hi : Int) (w : World) : Calls Tryz.prog 162 #[.int .i64 n,.int .i64 lo,.int .i64 hi] w fun e w' => e = .returned (.bool (inB2 n lo hi)) ∧ w' = w := by
 by_cases h1 : lo ≤ n
 ·have hg : n ≥ lo := h1
  by_cases h2 : n ≤ hi
  ·have hr : inB2 n lo hi = true := by simp [inB2, h1, h2]
   rw [hr]
   go_enter Tryz.func162,Tryz.ntmps162
   go_wp2
   go_ret
   exact ⟨rfl,rfl⟩
  ·have hr : inB2 n lo hi = false := by simp [inB2, h2]
   rw [hr]
   go_enter Tryz.func162,Tryz.ntmps162
   go_wp2
   go_ret
   exact ⟨rfl,rfl⟩
 ·have hg : ¬ n ≥ lo := h1
  have hr : inB2 n lo hi = false := by simp [inB2,h1]
  rw [hr]
  go_enter Tryz.func162,Tryz.ntmps162
  go_wp2
  go_ret
  exact ⟨rfl,rfl⟩
def allB (l : List Int) : Bool := l.all fun n => inB2 n 0 1000000000000000
set_option maxHeartbeats 400000 in
theorem quoAll (S : Nat → Prop) (v : Value) (l : List Int) (w : World) (h : RInts S w v l) (hl : l.length ≤ 1000000) :
  Calls Tryz.prog 140 #[v] w fun e w' => e = .returned (.bool (allB l)) ∧ w' = w := by
 obtain ⟨a,cap,rfl,-,-⟩ := RSl.shape h
 obtain ⟨n,hn⟩ : ∃ n,l.length = n := ⟨_,rfl⟩
 rw [hn] at h hl ⊢
 have HH := Lib.hid h;have Hn := Lib.hid hn
 clear h hn
 go_enter Tryz.func140,Tryz.ntmps140
 go_wp2
 go_loopw [4,7] (fun _ i wr => ∃ k : Nat,k ≤ n ∧ i = .int .i64 k ∧ Hid (∀ j (h : j < l.length),j < k → inB2 l[j] 0 1000000000000000 = true) ∧ wr = w) (fun _ i _ => n - (intOf i).toNat)
 case atStart => exact ⟨0,Nat.zero_le _,rfl,Lib.hid (fun _ _ h => absurd h (by omega)),rfl⟩
 case round =>
  obtain ⟨k,hk,rfl,hne,ew⟩ := hrel
  obtain rfl := ew.symm
  by_cases hlt : k < n
  ·have hlr : k < l.length := by rw [Hn.out]; exact hlt
   obtain ⟨b,off,cc,rfl,-,hbw,hc,hx⟩ := RSl.at1 HH.out k hlr
   obtain ⟨rfl,-⟩ := hx.open
   have hW := fun W => quoWithin l[k] 0 1000000000000000 W
   obtain ⟨x,hx2⟩ : ∃ x,l[k] = x := ⟨_,rfl⟩
   rw [hx2] at hc hW
   cases hb : inB2 x 0 1000000000000000 with
   | false =>
    rw [hb] at hW
    have hr : allB l = false := by
     rw [allB,List.all_eq_false]
     exact ⟨_,List.getElem_mem hlr,by rw [hx2,hb];simp⟩
    have HW := Lib.hid hW;have Hr := Lib.hid hr
    clear hW hr hx hx2 hb
    go_wp2_with (go_at_call 162;refine (HW.out _).mono ?_;rintro e w1 ⟨rfl,e1⟩;obtain rfl := e1.symm;clear e1)
    go_ret
    exact ⟨qaa Hr.out.symm,rfl⟩
   | true =>
    rw [hb] at hW
    have hst : ∀ j (h : j < l.length),j < k + 1 → inB2 l[j] 0 1000000000000000 = true := fun j hj hjk => by
     by_cases e : j = k
     ·subst e;rw [hx2];exact hb
     ·exact hne.out j hj (by omega)
    have HW := Lib.hid hW;have Hst := Lib.hid hst
    clear hW hst hx hx2 hb
    go_wp2_with (go_at_call 162;refine (HW.out _).mono ?_;rintro e w1 ⟨rfl,e1⟩;obtain rfl := e1.symm;clear e1)
    exact ⟨⟨k + 1,by omega,by go_num,Hst,(by first | rfl | trivial)⟩,by simp [intOf];omega⟩
  ·obtain rfl : k = n := by omega
   have hr : allB l = true := by
    rw [allB,List.all_eq_true]
    intro x hx
    obtain ⟨j,hj,rfl⟩ := List.getElem_of_mem hx
    exact hne.out j hj (by rw [← Hn.out];exact hj)
   have Hr := Lib.hid hr
   clear hr
   go_wp2
   go_ret
   exact ⟨qaa Hr.out.symm,rfl⟩
theorem i64_small15 {x : Int} (h0 : 0 ≤ x) (h1 : x ≤ 4000000000000000000) : IntKind.i64.wrap x = x := by
 simp [IntKind.wrap,IntKind.bits,IntKind.signed]
 omega
def ProdR (a b c : Nat) (w : World) (e : Ending) (w' : World) : Prop := ∃ n r : Nat,e = .returned (.tuple #[.int .i64 n,.int .i64 r,.bool (decide (a * b / c ≤ 1000000000000000))]) ∧ (a * b / c ≤ 1000000000000000 → n = a * b / c ∧ r = a * b % c) ∧ n ≤ 1000000000000001 ∧ r ≤ 1000000000000000 ∧ Below w.heap.size w w'
set_option maxHeartbeats 1000000 in
set_option maxRecDepth 100000 in
theorem quoProduct (a b c : Nat) (w : World) (ha : a ≤ 1000000000000000) (hb : b ≤ 1000000000000000) (hc : c ≤ 1000000000000000) (hc0 : 0 < c) :
  Calls Tryz.prog 141 #[.int .i64 a,.int .i64 b,.int .i64 c] w (ProdR a b c w) := by
 have hM := fun W => Tryz.bits_Mul64 a b (by omega) (by omega) W
 have wa := qa5 (x := (a : Int)) (by omega) (by omega)
 have wb := qa5 (x := (b : Int)) (by omega) (by omega)
 have wc := qa5 (x := (c : Int)) (by omega) (by omega)
 obtain ⟨P,hP⟩ : ∃ P,a * b = P := ⟨_,rfl⟩
 unfold ProdR
 rw [hP] at hM ⊢
 have hdm := Nat.div_add_mod P 18446744073709551616
 have hml := Nat.mod_lt P (show 0 < 18446744073709551616 by omega)
 obtain ⟨hi,hhi⟩ : ∃ x,P / 18446744073709551616 = x := ⟨_,rfl⟩
 obtain ⟨lo,hlo⟩ : ∃ x,P % 18446744073709551616 = x := ⟨_,rfl⟩
 rw [hhi,hlo] at hdm hM
 rw [hlo] at hml
 have HM := Lib.hid hM
 by_cases hbig : c ≤ hi
 ·have hq : ¬ P / c ≤ 1000000000000000 := by
   intro h
   have h1 : 18446744073709551616 * c ≤ P := by
    have := Nat.mul_le_mul_left 18446744073709551616 hbig
    omega
   have h2 : 18446744073709551616 ≤ P / c := by rw [Nat.le_div_iff_mul_le hc0];exact h1
   omega
  have hdq : decide (P / c ≤ 1000000000000000) = false := decide_eq_false hq
  rw [hdq]
  have hge : (hi : Int) ≥ (c : Int) := by omega
  have Hq := Lib.hid hq
  clear hM hdq hq hP hhi hlo hdm hml
  go_enter Tryz.func141,Tryz.ntmps141
  go_wp2_with (go_at_call 189;refine (HM.out _).mono ?_;rintro e w1 ⟨rfl,e1⟩;obtain rfl := e1.symm;clear e1)
  go_ret3
  refine ⟨0,0,rfl,fun h => absurd h Hq.out,by omega,by omega,?_⟩
  exact qa1 w _
 ·have hD := fun W => div64 hi lo c W (by omega) hml (by omega)
  have hPe : hi * 18446744073709551616 + lo = P := by omega
  rw [hPe] at hD
  have hge : ¬ (hi : Int) ≥ (c : Int) := by omega
  have hrl := Nat.mod_lt P hc0
  obtain ⟨Q,hQ⟩ : ∃ x,P / c = x := ⟨_,rfl⟩
  obtain ⟨R,hR⟩ : ∃ x,P % c = x := ⟨_,rfl⟩
  have hQ64 : Q < 18446744073709551616 := by
   rw [← hQ,Nat.div_lt_iff_lt_mul hc0]
   have := Nat.mul_le_mul_left 18446744073709551616 (show hi + 1 ≤ c by omega)
   omega
  rw [hQ,hR] at hD
  rw [hQ]
  rw [hR] at hrl
  have HD := Lib.hid hD;have Hrm := Lib.hid hR
  have wr := i64_small15 (x := (R : Int)) (by omega) (by omega)
  by_cases hok : Q ≤ 1000000000000000
  ·have hd : decide (Q ≤ 1000000000000000) = true := decide_eq_true hok
   have hmin : min (Q : Int) 1000000000000001 = (Q : Int) := by omega
   have hmin2 : min 1000000000000001 (Q : Int) = (Q : Int) := by omega
   have hle : (Q : Int) ≤ 1000000000000000 := by omega
   have wq := i64_small15 (x := (Q : Int)) (by omega) (by omega)
   rw [hd]
   clear hM hD hd hP hhi hlo hdm hml hPe hQ hR
   go_enter Tryz.func141,Tryz.ntmps141
   go_wp2_with (first
    | (go_at_call 189;refine (HM.out _).mono ?_;rintro e w1 ⟨rfl,e1⟩;obtain rfl := e1.symm;clear e1)
    | (go_at_call 190;refine (HD.out _).mono ?_;rintro e w2 ⟨rfl,hb2⟩))
   go_ret3
   exact ⟨Q,R,rfl,fun _ => ⟨rfl,Hrm.out.symm⟩,by omega,by omega,bt (qa1 w _) hb2⟩
  ·have hd : decide (Q ≤ 1000000000000000) = false := decide_eq_false hok
   have hmin : min (Q : Int) 1000000000000001 = ((1000000000000001 : Nat) : Int) := by omega
   have hle : ¬ (Q : Int) ≤ 1000000000000000 := by omega
   have hdd : decide ((Q : Int) ≤ 1000000000000000) = false := decide_eq_false hle
   have wq := i64_small15 (x := ((1000000000000001 : Nat) : Int)) (by omega) (by omega)
   rw [hd]
   have Hok := Lib.hid hok
   clear hM hD hd hP hhi hlo hdm hml hPe hQ hR hok
   go_enter Tryz.func141,Tryz.ntmps141
   go_wp2_with (first
    | (go_at_call 189;refine (HM.out _).mono ?_;rintro e w1 ⟨rfl,e1⟩;obtain rfl := e1.symm;clear e1)
    | (go_at_call 190;refine (HD.out _).mono ?_;rintro e w2 ⟨rfl,hb2⟩))
   go_ret3
   exact ⟨1000000000000001,R,rfl,fun h => absurd h Hok.out,by omega,by omega,bt (qa1 w _) hb2⟩
def shareI (a b c : Int) : Int := if allB [a,b,c] = true then (if c = 0 then 40 else if a * b / c ≤ 1000000000000000 then 0 else 30) else 2
def shareV (a b c : Int) : Int := if shareI a b c = 0 then a * b / c else 0
theorem allB3 {a b c : Int} (h : allB [a,b,c] = true) : (0 ≤ a ∧ a ≤ 1000000000000000) ∧ (0 ≤ b ∧ b ≤ 1000000000000000) ∧ 0 ≤ c ∧ c ≤ 1000000000000000 := by
 simp only [allB,inB2,List.all_cons,List.all_nil,Bool.and_eq_true,decide_eq_true_eq,Bool.and_true] at h
 omega
theorem lit3 {w : World} {a b c : Int} (ha : (Lit.int .i64 a).wf = true) (hb : (Lit.int .i64 b).wf = true) (hc : (Lit.int .i64 c).wf = true) : RInts Any (w.alloc (.cells #[.int .i64 a,.int .i64 b,.int .i64 c] 3)) (.slice (some ⟨w.heap.size,0,none⟩) 3 3) [a,b,c] :=
 qb5 (xs := [a,b,c]) (qa8 w (.cells #[.int .i64 a,.int .i64 b,.int .i64 c] 3)) (by intro x hx;simp at hx;rcases hx with rfl | rfl | rfl;exact ha;exact hb;exact hc) (by simp)
set_option maxHeartbeats 1000000 in
theorem quoShare (a b c : Int) (w : World) (ha : (Lit.int .i64 a).wf = true) (hb : (Lit.int .i64 b).wf = true) (hc : (Lit.int .i64 c).wf = true) :
  Calls Tryz.prog 74 #[.int .i64 a,.int .i64 b,.int .i64 c] w fun e w' => e = .returned (.tuple #[.int .i64 (shareV a b c),.int .i64 (shareI a b c)]) ∧ Below w.heap.size w w' := by
 have hA := quoAll Any _ [a,b,c] _ (lit3 (w := w) ha hb hc) (by simp)
 unfold shareV
 by_cases h3 : allB [a,b,c] = true
 ·obtain ⟨⟨a0, a1⟩, ⟨b0, b1⟩, c0, c1⟩ := allB3 h3
  by_cases hc0 : c = 0
  ·have hi : shareI a b c = 40 := by rw [shareI, if_pos h3, if_pos hc0]
   rw [h3] at hA
   rw [hi,if_neg (by omega)]
   subst hc0
   have HA := Lib.hid hA
   clear hA h3 hi ha hb hc
   go_enter Tryz.func74,Tryz.ntmps74
   go_wp2_with (go_at_call 140;refine HA.out.mono ?_;rintro e w1 ⟨rfl,rfl⟩)
   go_ret2
   exact ⟨rfl,qa1 w _⟩
  ·obtain ⟨A, rfl⟩ : ∃ n : Nat, a = n := ⟨a.toNat, by omega⟩
   obtain ⟨B,rfl⟩ : ∃ n : Nat,b = n := ⟨b.toNat,by omega⟩
   obtain ⟨C,rfl⟩ : ∃ n : Nat,c = n := ⟨c.toNat,by omega⟩
   have hP := fun W => quoProduct A B C W (by omega) (by omega) (by omega) (by omega)
   unfold ProdR at hP
   have hcb : ((C : Int) == 0) = false := beq_eq_false_iff_ne.2 hc0
   have hcn : ¬ C = 0 := by omega
   have hdiv : (A : Int) * (B : Int) / (C : Int) = ((A * B / C : Nat) : Int) := by simp
   rw [h3] at hA
   have hsi : shareI A B C = if ((A * B / C : Nat) : Int) ≤ 1000000000000000 then 0 else 30 := by rw [shareI,if_pos h3,if_neg hc0,hdiv]
   rw [hsi,hdiv]
   by_cases hq : A * B / C ≤ 1000000000000000
   ·have hi : (if ((A * B / C : Nat) : Int) ≤ 1000000000000000 then (0 : Int) else 30) = 0 := if_pos (by omega)
    rw [hi,if_pos rfl]
    clear hi
    rw [decide_eq_true hq] at hP
    obtain ⟨Q,hQ⟩ : ∃ Q,A * B / C = Q := ⟨_,rfl⟩
    rw [hQ] at hP hq ⊢
    have HA := Lib.hid hA;have HP := Lib.hid hP;have Hq := Lib.hid hq
    clear hA hP h3 hsi ha hb hc hdiv hQ hq
    go_enter Tryz.func74,Tryz.ntmps74
    go_wp2_with (first
     | (go_at_call 140;refine HA.out.mono ?_;rintro e w1 ⟨rfl,rfl⟩)
     | (go_at_call 141;refine (HP.out _).mono ?_;rintro e w2 ⟨n,r,rfl,h5,-,-,hb2⟩;obtain ⟨rfl,-⟩ := h5 Hq.out))
    go_ret2
    exact ⟨rfl,bt (qa1 w _) hb2⟩
   ·have hi : (if ((A * B / C : Nat) : Int) ≤ 1000000000000000 then (0 : Int) else 30) = 30 := if_neg (by omega)
    rw [hi,if_neg (by omega)]
    clear hi
    rw [decide_eq_false hq] at hP
    have HA := Lib.hid hA;have HP := Lib.hid hP
    clear hA hP h3 hsi ha hb hc hdiv hq
    go_enter Tryz.func74,Tryz.ntmps74
    go_wp2_with (first
     | (go_at_call 140;refine HA.out.mono ?_;rintro e w1 ⟨rfl,rfl⟩)
     | (go_at_call 141;refine (HP.out _).mono ?_;rintro e w2 ⟨n,r,rfl,-,-,-,hb2⟩))
    go_ret2
    exact ⟨rfl,bt (qa1 w _) hb2⟩
 ·have hi : shareI a b c = 2 := by rw [shareI, if_neg h3]
  have h3' : allB [a,b,c] = false := by simpa using h3
  rw [h3'] at hA
  rw [hi,if_neg (by omega)]
  have HA := Lib.hid hA
  clear hA h3 h3' hi ha hb hc
  go_enter Tryz.func74,Tryz.ntmps74
  go_wp2_with (go_at_call 140;refine HA.out.mono ?_;rintro e w1 ⟨rfl,rfl⟩)
  go_ret2
  exact ⟨rfl,qa1 w _⟩
end

section
open Go Go.RowKit Go.Shelf Limb

theorem i64_bounds {n : Int} (h : (Lit.int .i64 n).wf = true) : -9223372036854775808 ≤ n ∧ n ≤ 9223372036854775807 := by
 simp [Lit.wf,IntKind.min,IntKind.max,IntKind.bits,IntKind.signed] at h
 omega
def passI (value n most : Int) : Int := if (0 ≤ value ∧ value ≤ 1000000000) ∧ (0 ≤ most ∧ most ≤ n) ∧ (1 ≤ n ∧ n ≤ 1000000000000000) then 0 else 2
theorem share_pass {value n most : Int} (h1 : 0 ≤ value ∧ value ≤ 1000000000) (h2 : 0 ≤ most ∧ most ≤ n) : (shareI value (n - most) n = 0 ↔ passI value n most = 0) ∧ (passI value n most = 0 → shareV value (n - most) n = value * (n - most) / n) := by
 have key : passI value n most = 0 → shareI value (n - most) n = 0 := fun h => by
  unfold passI at h
  split at h
  ·rename_i hh
   obtain ⟨-,-,n1,n2⟩ := hh
   have h3 : allB [value,n - most,n] = true := by
    simp only [allB,inB2,List.all_cons,List.all_nil,Bool.and_eq_true,decide_eq_true_eq,Bool.and_true]
    omega
   rw [shareI,if_pos h3,if_neg (by omega),if_pos]
   have hm : value * (n - most) ≤ 1000000000 * n := Int.mul_le_mul h1.2 (by omega) (by omega) (by omega)
   have : value * (n - most) / n ≤ 1000000000 := by
    have := Int.ediv_le_ediv (show 0 < n by omega) hm
    rwa [Int.mul_ediv_cancel _ (show n ≠ 0 by omega)] at this
   omega
  ·cases h
 refine ⟨⟨fun h => ?_,key⟩,fun h => by rw [shareV,if_pos (key h)]⟩
 unfold shareI at h
 split at h
 ·rename_i h3
  obtain ⟨-,-,c0,c1⟩ := allB3 h3
  split at h
  ·cases h
  ·rw [passI,if_pos ⟨h1,h2,by omega,by omega⟩]
 ·cases h
def GivesB (n : Nat) (w : World) (e : Ending) (w' : World) : Prop := ∃ a m c a' m' c',e = .returned (.tuple #[.agg #[.bool false,.slice a m c,.slice a' m' c'],.int .i64 0]) ∧ RU (From w.heap.size) w' (.slice a m c) (bill n).num ∧ RU (From w.heap.size) w' (.slice a' m' c') (bill n).den ∧ Below w.heap.size w w'
theorem bill_nat (n : Nat) : bill (n : Int) = ⟨false,lim (n / Nat.gcd n 1000000000),lim (1000000000 / Nat.gcd n 1000000000)⟩ := by simp [bill]
set_option maxHeartbeats 1000000 in
theorem quoRatio (n : Nat) (w : World) (hn : n ≤ 1000000000000000) : Calls Tryz.prog 156 #[.int .i64 n] w (GivesB n w) := by
 have hb0 := qa1 w (.cells #[.bool false,.slice none 0 0,.slice none 0 0] 56)
 obtain ⟨W0,hW0⟩ : ∃ W,W = w.alloc (.cells #[.bool false,.slice none 0 0,.slice none 0 0] 56) := ⟨_,rfl⟩
 have hgA : W0.heap[w.heap.size]? = some (.cells #[.bool false,.slice none 0 0,.slice none 0 0] 56 (0,0)) := by rw [hW0];exact qa8 w _
 have hz0 : W0.heap.size = w.heap.size + 1 := by rw [hW0];simp
 have hw : (Lit.int .i64 (n : Int)).wf = true := WalkArith.wf_i64 (by omega)
 have hlit : RInts Any (W0.alloc (.cells #[.int .i64 (n : Int)] 3)) (.slice (some ⟨W0.heap.size,0,none⟩) 1 1) [(n : Int)] := qb5 (xs := [(n : Int)]) (qa8 W0 _) (by intro x hx;rw [List.mem_singleton.1 hx];exact hw) (by simp)
 have hA := quoAll Any _ [(n : Int)] _ hlit (by simp)
 have hall : allB [(n : Int)] = true := by simp [allB,inB2];omega
 rw [hall,hz0] at hA
 have hR := fun W => ratOfF n 1000000000 W (by omega) (by omega) (by omega)
 unfold GivesB
 rw [bill_nat]
 simp only
 obtain ⟨xs,hxs⟩ : ∃ xs,lim (n / Nat.gcd n 1000000000) = xs := ⟨_,rfl⟩
 obtain ⟨ys,hys⟩ : ∃ ys,lim (1000000000 / Nat.gcd n 1000000000) = ys := ⟨_,rfl⟩
 rw [hxs,hys] at hR ⊢
 obtain ⟨L1,hL1⟩ : ∃ L,xs.length = L := ⟨_,rfl⟩
 obtain ⟨L2,hL2⟩ : ∃ L,ys.length = L := ⟨_,rfl⟩
 rw [hL1,hL2] at hR
 have HA := Lib.hid hA;have HR := Lib.hid hR;have HW0 := Lib.hid hW0;have HgA := Lib.hid hgA;have Hz0 := Lib.hid hz0;have Hb0 := Lib.hid hb0
 clear hA hR hW0 hgA hz0 hb0 hlit hall hw hxs hys hL1 hL2
 have hb1 : Below W0.heap.size W0 (W0.alloc (.cells #[.int .i64 (n : Int)] 3)) := qa1 _ _
 go_enter Tryz.func156,Tryz.ntmps156
 go_wp2_with (first
  | (go_at_call 140;rw [← HW0.out];refine HA.out.mono ?_;rintro e w1 ⟨rfl,rfl⟩)
  | (go_at_call 200;refine (HR.out _).mono ?_;rintro e w2 ⟨a,c,a',c',rfl,k1,k2,hb2⟩;have K1 := Lib.hid k1;have K2 := Lib.hid k2;have B2 := Lib.hid (bt hb1 hb2);obtain ⟨-,z2,f2⟩ := qa6 B2.out (by rw [Hz0.out];omega) HgA.out;have z20 := z2 0;have z21 := z2 1;have z22 := z2 2;have f20 := f2 0;have f21 := f2 1;have f22 := f2 2;clear k1 k2 hb2 z2 f2))
 have hl : w.heap.size < w2.heap.size := by have := B2.out.size;have := Hz0.out;omega
 refine bodyPost_ret (v := .tuple #[.agg #[.bool false,.slice a L1 c,.slice a' L2 c'],.int .i64 0]) (by simp [results,Tryz.results156,go_sem,z20,z21,z22]) rfl ⟨a,_,c,a',_,c',rfl,?_,?_,?_⟩
 ·refine RSl.mono (fun _ _ _ h => h) (fun b hb => ?_) (RU.same ((((Same.refl (fun b => w.heap.size < b) w2).setCell (p := ⟨w.heap.size, 0, none⟩) (by simp) _).setCell (p := ⟨w.heap.size, 1, none⟩) (by simp) _).setCell (p := ⟨w.heap.size, 2, none⟩) (by simp) _) (RU.mono (T := fun b => w.heap.size < b) (fun b hb => ?_) K1.out))
  ·exact Nat.le_of_lt hb
  ·have hh := hb;have := Hz0.out;simp [From] at hh;omega
 ·refine RSl.mono (fun _ _ _ h => h) (fun b hb => ?_) (RU.same ((((Same.refl (fun b => w.heap.size < b) w2).setCell (p := ⟨w.heap.size, 0, none⟩) (by simp) _).setCell (p := ⟨w.heap.size, 1, none⟩) (by simp) _).setCell (p := ⟨w.heap.size, 2, none⟩) (by simp) _) (RU.mono (T := fun b => w.heap.size < b) (fun b hb => ?_) K2.out))
  ·exact Nat.le_of_lt hb
  ·have hh := hb;have := Hz0.out;simp [From] at hh;omega
 ·exact (((bt Hb0.out (HW0.out ▸ B2.out)).setCell (p := ⟨w.heap.size,0,none⟩) (Nat.le_refl _) _).setCell (p := ⟨w.heap.size,1,none⟩) (Nat.le_refl _) _).setCell (p := ⟨w.heap.size,2,none⟩) (Nat.le_refl _) _
end

section
open Go Go.RowKit Go.Shelf

abbrev Blks := List (Option Nat)
structure Keep (K : Blks) (w w' : World) : Prop where
 zero : Below 0 w w'
 block : ∀ b,b < w.heap.size → some b ∉ K → w'.heap[b]? = w.heap[b]?
def Rk (M : Blks) (base : Nat) (w : World) : Nat → Prop := fun b => base ≤ b ∧ b < w.heap.size ∧ some b ∉ M
section
variable {K L M : Blks} {w w1 w2 : World} {base : Nat}
theorem Keep.size (h : Keep K w w1) : w.heap.size ≤ w1.heap.size := h.zero.size
theorem Keep.refl (K : Blks) (w : World) : Keep K w w := ⟨Below.refl _ _,fun _ _ _ => rfl⟩
theorem Keep.mono (h : Keep K w w1) (hL : ∀ b,b < w.heap.size → some b ∈ K → some b ∈ L) : Keep L w w1 := ⟨h.zero,fun b hb hn => h.block b hb fun hk => hn (hL b hb hk)⟩
theorem Keep.trans (h : Keep K w w1) (k : Keep L w1 w2) (hL : ∀ b,b < w.heap.size → some b ∈ L → some b ∈ K) : Keep K w w2 :=
 ⟨h.zero.trans (k.zero.mono (Nat.zero_le _)),fun b hb hn => (k.block b (Nat.lt_of_lt_of_le hb h.size) fun hk => hn (hL b hb hk)).trans (h.block b hb hn)⟩
theorem Keep.of_below (h : Below w.heap.size w w1) : Keep K w w1 := ⟨h.mono (Nat.zero_le _),fun b hb _ => h.block b hb⟩
theorem Keep.then (h : Keep K w w1) (k : Below w1.heap.size w1 w2) : Keep K w w2 := h.trans (Keep.of_below (K := []) k) (fun _ _ h => by cases h)
theorem Keep.of_grown {row : Option Nat} (h : w.grownBy w1 row) : Keep [row] w w1 := ⟨⟨h.os,h.tape,h.output,h.size,fun _ hk => absurd hk (Nat.not_lt_zero _)⟩,fun b hb hn => h.block b hb fun e => hn (e ▸ List.mem_singleton.2 rfl)⟩
theorem Keep.set (h : Keep K w w1) (g o : Nat) (v : Value) : Keep (some g :: K) w (w1.setCell ⟨g,o,none⟩ v) :=
 ⟨h.zero.setCell (p := ⟨g,o,none⟩) (Nat.zero_le _) v,fun b hb hn => (Below.heap_setCell w1 ⟨g,o,none⟩ v b (fun e => hn (by rw [e];exact List.mem_cons_self))).trans (h.block b hb fun hk => hn (List.mem_cons_of_mem _ hk))⟩
theorem Keep.setIn (h : Keep K w w1) (g o : Nat) (v : Value) (hg : some g ∈ K ∨ w.heap.size ≤ g) : Keep K w (w1.setCell ⟨g,o,none⟩ v) :=
 ⟨h.zero.setCell (p := ⟨g, o, none⟩) (Nat.zero_le _) v, fun b hb hn => (Below.heap_setCell w1 ⟨g, o, none⟩ v b (fun e => by
  simp only at e
  rcases hg with hg | hg
  ·exact hn (e ▸ hg)
  ·omega)).trans (h.block b hb hn)⟩
theorem Keep.below (h : Keep K w w1) {B : Nat} (hB : ∀ b,b < B → some b ∉ K) (hs : B ≤ w.heap.size) : Below B w w1 :=
 ⟨h.zero.os,h.zero.tape,h.zero.output,h.size,fun b hb => h.block b (Nat.lt_of_lt_of_le hb hs) (hB b hb)⟩
theorem Keep.same (h : Keep K w w1) {S : Nat → Prop} (hS : ∀ b,S b → some b ∉ K) : Same S w w1 := fun b hb hs => h.block b hb (hS b hs)
theorem Keep.grown {row : Option Nat} (h : Keep [row] w w1) : w.grownBy w1 row := ⟨h.zero.os,h.zero.tape,h.zero.output,h.size,fun b hb hn => h.block b hb fun hk => hn (List.mem_singleton.1 hk)⟩
theorem Keep.box (h : Keep K w w1) {g : Nat} {o : Obj} (hg : w.heap[g]? = some o) (hn : some g ∉ K) : w1.heap[g]? = some o := (h.block g (qa0 hg) hn).trans hg
theorem Keep.own {α : Type} {e : TypeId} {n : Nat} {dec : World → List Value → α → Prop} {S : Nat → Prop} (hst : Stable S dec) {v : Value} {xs : List α} (hk : Keep K w w1)
  (h : Own base e n dec w v xs) (hn : ∀ b,v.ownBlock = some b → some b ∉ K) (hS : ∀ b,S b → some b ∉ K) : Own base e n dec w1 v xs := by
 obtain ⟨cells,⟨hl,ho⟩,hd⟩ := h
 refine ⟨cells,⟨hl,?_⟩,hd.same hst (hk.same hS)⟩
 rcases ho with ho | ⟨g,cap,cur,rfl,h1,h2,h3⟩
 ·exact .inl ho
 ·exact .inr ⟨g,cap,cur,rfl,h1,hk.box h2 (hn g rfl),h3⟩
theorem Keep.rints {S : Nat → Prop} {v : Value} {xs : List Int} (hk : Keep K w w1) (h : RInts S w v xs) (hS : ∀ b,S b → some b ∉ K) : RInts S w1 v xs := h.same (hk.same hS)
theorem Rk.up (hs : w.heap.size ≤ w1.heap.size) (hM : ∀ b,b < w.heap.size → some b ∈ L → some b ∈ M) : ∀ b,Rk M base w b → Rk L base w1 b := fun b ⟨h0,h1,h2⟩ => ⟨h0,Nat.lt_of_lt_of_le h1 hs,fun hk => h2 (hM b h1 hk)⟩
theorem Rk.out (hM : ∀ b,some b ∈ K → some b ∈ M) : ∀ b,Rk M base w b → some b ∉ K := fun b h hk => h.2.2 (hM b hk)
theorem Rk.new (hn : ∀ b,some b ∈ M → b < w.heap.size) (hb : base ≤ w.heap.size) {b : Nat} (h : w.heap.size ≤ b) (h1 : b < w1.heap.size) : Rk M base w1 b := ⟨Nat.le_trans hb h,h1,fun hm => by have := hn b hm;omega⟩
theorem Rk.ints (hn : ∀ b,some b ∈ M → b < w.heap.size) (hb : base ≤ w.heap.size) {u : Value} {l : List Int} (hu : Own w.heap.size 3 1 (dInt .i64) w1 u l) (hl : l.length ≤ 1000000) : RInts (Rk M base w1) w1 u l :=
 RSl.mono (fun _ _ _ h => h) (fun _ hb' => Rk.new hn hb hb'.1 hb'.2) (RSl.cut (by omega) (fun _ _ h => h) (Own.rsl hu (by omega)))
def Mv (w : World) (v v' : Value) : Prop := v'.ownBlock = v.ownBlock ∨ ∃ b,v'.ownBlock = some b ∧ w.heap.size ≤ b
theorem Mv.of {v v' : Value} (h : Mv w v v') {b : Nat} (hb : b < w.heap.size) (e : some b = v'.ownBlock) : some b = v.ownBlock := by
 rcases h with h | ⟨c,h,hc⟩
 ·rw [e,h]
 ·rw [h] at e;cases e;omega
theorem TellR.keep {g : Nat} {S : Nat → Prop} {ve vr vt vl : Value} {ts : List Tie} (h : TellR base g S ve vr vt vl ts w w1) : ∃ vt',w1.heap[g]? = some (.cells #[ve,vr,vt',vl] 97 (0,0)) ∧
  Own base 115 2 (dTie fun b => S b ∨ (w.heap.size ≤ b ∧ b < w1.heap.size ∧ some b ≠ vt'.ownBlock)) w1 vt' ts ∧ Keep [some g,vt.ownBlock] w w1 ∧ Mv w vt vt' := by
 obtain ⟨vt',k1,k2,k3,k4,k5,k6⟩ := h
 refine ⟨vt',k1,k2,⟨k6 0 w (Nat.zero_le _) (Below.refl _ _),fun b hb hn => k3 b hb (fun e => hn (by simp [e])) (fun e => hn (by simp [e]))⟩,k5⟩
end
end

section
open Go Go.RowKit Go.Shelf Limb

theorem markS_take {rows : List Row} {k : Nat} (hk : k < rows.length) : markS (rows.take (k + 1)) = markS (rows.take k) + if rows[k].marks = [] then 0 else rows[k].many := by
 rw [List.take_succ_eq_append_getElem hk,markS,markS,List.filter_append,List.map_append,List.sum_append]
 cases h : rows[k].marks <;> simp [h]
theorem markS_bound {rows : List Row} (h : ∀ r ∈ rows,0 ≤ r.many) : 0 ≤ markS rows ∧ markS rows ≤ sumR rows := sumR_sub rows _ h
theorem markOne (S : Nat → Prop) (a : Option Addr) (n c : Nat) (m : Int) (xs : List Int) (w : World) (h : RInts S w (.slice a n c) xs) :
  Calls Tryz.prog 99 (#[.agg #[.slice a n c,.int .i64 m]] ++ #[]) w fun e w' => e = .returned (.bool (decide (xs ≠ []))) ∧ Below w.heap.size w w' := by
 have hn : xs.length = n := (RSl.len h).symm
 have hb := qa1 w (.cells #[.slice a n c,.int .i64 m] 66)
 by_cases h0 : n = 0
 ·subst h0
  have he : xs = [] := List.eq_nil_of_length_eq_zero hn
  rw [he]
  clear he h hn
  go_enter Tryz.func99,Tryz.ntmps99
  go_wp2
  go_ret
  exact ⟨rfl,hb⟩
 ·have he : xs ≠ [] := fun e => h0 (by rw [← hn, e]; rfl)
  rw [decide_eq_true he]
  have hg : (n : Int) > 0 := by omega
  have hg2 : decide (0 < n) = true := decide_eq_true (by omega)
  have hg3 : 0 < n := by omega
  clear he h hn h0
  go_enter Tryz.func99,Tryz.ntmps99
  go_wp2
  go_ret
  exact ⟨rfl,hb⟩
def markV (p : Prof) : Int := if chkP p = 0 then markS p.rows else 0
theorem rows_many {p : Prof} (h : chkP p = 0) : (∀ r ∈ p.rows,0 ≤ r.many) ∧ sumR p.rows ≤ 1000000 := by
 have h1 := chkP_zero.1 h
 exact ⟨fun r hr => by have := h1.asc.many r hr;omega,h1.sum⟩
set_option maxHeartbeats 1000000 in
theorem profCountM (S : Nat → Prop) (v : Value) (p : Prof) (w : World) (h : VProf S w v p) :
  Calls Tryz.prog 98 #[v,.func (.func 99) #[] #[]] w fun e w' => e = .returned (.tuple #[.int .i64 (markV p),.int .i64 (chkP p)]) ∧ Below w.heap.size w w' := by
 have h0 := h
 obtain ⟨a,cap,rfl,-,-,hR⟩ := h
 obtain ⟨W0,hW0⟩ : ∃ W,W = w.alloc (.cells #[.int .i64 p.cands,.int .u8 p.kind,.slice a p.rows.length cap] 24) := ⟨_,rfl⟩
 have hb0 : Below w.heap.size w W0 := by rw [hW0];exact qa1 _ _
 have hg : W0.heap[w.heap.size]? = some (.cells #[.int .i64 p.cands,.int .u8 p.kind,.slice a p.rows.length cap] 24 (0,0)) := by rw [hW0];exact qa8 _ _
 have hC := profCheck S _ p W0 (h0.same (.of_below hb0))
 have hRw := fun W (hW : Below W0.heap.size W0 W) => hR.same (.of_below (bt hb0 hW))
 have eg : ∀ args w,(callFunc 99 args).run Tryz.prog w = .ok (.enter 99 args) w := enters_of Tryz.func99 (by kernel_rfl) rfl
 unfold markV
 obtain ⟨cc,hcc⟩ : ∃ x,p.cands = x := ⟨_,rfl⟩
 obtain ⟨kk,hkk⟩ : ∃ x,p.kind = x := ⟨_,rfl⟩
 obtain ⟨n,hn⟩ : ∃ n,p.rows.length = n := ⟨_,rfl⟩
 by_cases hk : chkP p = 0
 ·obtain ⟨hm, hs⟩ := rows_many hk
  rw [hk] at hC
  rw [hk,if_pos rfl]
  have hn64 : n ≤ 64 := by rw [← hn];exact (chkP_zero.1 hk).rows
  have hpart : ∀ k,0 ≤ markS (p.rows.take k) ∧ markS (p.rows.take k) ≤ 1000000 := fun k => by
   have h1 := markS_bound (rows := p.rows.take k) fun r hr => hm r (List.mem_of_mem_take hr)
   have h2 := (sumR_takeLe (l := p.rows) hm k).2
   omega
  rw [hn,hcc,hkk] at hC hg hW0
  rw [hn,hcc,hkk]
  rw [hn] at hRw
  have HC := Lib.hid hC;have HRw := Lib.hid hRw;have HW0 := Lib.hid hW0;have Hg := Lib.hid hg;have Hb0 := Lib.hid hb0;have Hn := Lib.hid hn;have Hpart := Lib.hid hpart
  clear hC hRw hW0 hg hb0 hn hpart h0 hR hm hs hk hcc hkk
  go_enter Tryz.func98,Tryz.ntmps98
  go_wp2_with (go_at_call 70;rw [← HW0.out];refine HC.out.mono ?_;rintro e w1 ⟨rfl,hb⟩;have B1 := Lib.hid hb;obtain ⟨p0,p1,p2,pl⟩ := box3 Hg.out hb;clear hb)
  clear p0 p1 p2
  go_loopw [4,7,16] (fun nv _ i wr => ∃ (k : Nat) (s : Int),k ≤ n ∧ i = .int .i64 k ∧ nv = .int .i64 s ∧ Hid (s = markS (p.rows.take k)) ∧ Below w1.heap.size w1 wr) (fun _ _ i _ => n - (intOf i).toNat)
  case atStart => exact ⟨0,0,Nat.zero_le _,rfl,rfl,Lib.hid rfl,Below.refl _ _⟩
  case round =>
   obtain ⟨k,s,hk,rfl,rfl,hs,hb⟩ := hrel
   by_cases hlt : k < n
   ·have hlr : k < p.rows.length := by rw [Hn.out]; exact hlt
    have hb0 := bt B1.out hb
    obtain ⟨b,off,cc',dd,rfl,-,hbw,hc,hd,hx⟩ := RSl.at2 (HRw.out wr hb0) k hlr
    obtain ⟨ax,capx,rfl,rfl,-,-,hIx⟩ := hx.open
    have hp1 := Hpart.out k
    have hp2 := Hpart.out (k + 1)
    have hst := markS_take hlr
    rw [← hs.out] at hp1 hst
    obtain ⟨m,hmm⟩ : ∃ x,p.rows[k].many = x := ⟨_,rfl⟩
    obtain ⟨L,hL⟩ : ∃ L,p.rows[k].marks.length = L := ⟨_,rfl⟩
    rw [hL] at hc hIx
    rw [hmm] at hd hst
    have hbX := qa1 wr (.cells #[.slice ax L capx,.int .i64 m] 66)
    have hOne := markOne S ax L capx m p.rows[k].marks _ (hIx.same (.of_below hbX))
    have hxb : ∀ W,Below (wr.alloc (.cells #[.slice ax L capx,.int .i64 m] 66)).heap.size (wr.alloc (.cells #[.slice ax L capx,.int .i64 m] 66)) W → W.cell? ⟨wr.heap.size,1,none⟩ = some (.int .i64 m) := fun W hW => (qa6 hW (qa0 (qa8 wr _)) (qa8 wr _)).2.1 1
    have HXB := Lib.hid hxb;have Hbb := Lib.hid (bel_st (B := w1.heap.size) hb hbX hb.size)
    by_cases he : p.rows[k].marks = []
    ·rw [if_pos he] at hst
     have hdc : decide (p.rows[k].marks ≠ []) = false := decide_eq_false (fun h => h he)
     rw [hdc] at hOne
     have HO := Lib.hid hOne;have Hst := Lib.hid hst
     clear hOne hst he hdc hIx hL hmm hx hxb hbX hb0 hlr
     go_wp2_with (go_at_fn 99;refine HO.out.mono ?_;rintro e w2 ⟨rfl,hb2⟩;have B2 := Lib.hid (bel_st (B := w1.heap.size) Hbb.out hb2 Hbb.out.size);clear hb2)
     exact ⟨⟨k + 1,s,by omega,by go_num,rfl,Lib.hid (by rw [Hst.out];omega),B2.out⟩,by simp [intOf];omega⟩
    ·rw [if_neg he] at hst
     have hdc : decide (p.rows[k].marks ≠ []) = true := decide_eq_true he
     rw [hdc] at hOne
     rw [hst] at hp2
     have wsum := i64_small15 (x := s + m) (by omega) (by omega)
     have HO := Lib.hid hOne;have Hst := Lib.hid hst
     clear hOne hst he hdc hIx hL hmm hx hxb hbX hb0 hlr
     go_wp2_with (go_at_fn 99;refine HO.out.mono ?_;rintro e w2 ⟨rfl,hb2⟩;have c1 := HXB.out _ hb2;have B2 := Lib.hid (bel_st (B := w1.heap.size) Hbb.out hb2 Hbb.out.size);clear hb2)
     exact ⟨⟨k + 1,s + m,by omega,by go_num,rfl,Lib.hid Hst.out.symm,B2.out⟩,by simp [intOf];omega⟩
   ·obtain rfl : k = n := by omega
    have hfin : s = markS p.rows := by have := hs.out;rwa [List.take_of_length_le (by rw [Hn.out];exact Nat.le_refl _)] at this
    have HF := Lib.hid hfin
    clear hfin
    go_wp2
    go_ret2
    exact ⟨congrArg (fun z : Int => Ending.returned (.tuple #[.int .i64 z,.int .i64 0])) HF.out,bt Hb0.out (bt B1.out hb)⟩
 ·rw [if_neg hk]
  obtain ⟨I,hI⟩ : ∃ I,chkP p = I := ⟨_,rfl⟩
  rw [hI] at hC hk ⊢
  rw [hn,hcc,hkk] at hC hW0
  rw [hn,hcc,hkk]
  have hne : (I != 0) = true := by simpa using hk
  have HC := Lib.hid hC;have HW0 := Lib.hid hW0;have Hb0 := Lib.hid hb0
  clear hC hRw hW0 hg hb0 h0 hR hI hn hcc hkk eg hk
  go_enter Tryz.func98,Tryz.ntmps98
  go_wp2_with (go_at_call 70;rw [← HW0.out];refine HC.out.mono ?_;rintro e w1 ⟨rfl,hb⟩)
  go_ret2
  exact ⟨rfl,bt Hb0.out hb⟩
theorem profMarked (S : Nat → Prop) (v : Value) (p : Prof) (w : World) (h : VProf S w v p) :
  Calls Tryz.prog 42 #[v] w fun e w' => e = .returned (.tuple #[.int .i64 (markV p),.int .i64 (chkP p)]) ∧ Below w.heap.size w w' := by
 have h0 := h
 obtain ⟨a,cap,rfl,-,-,-⟩ := h
 have hb0 := qa1 w (.cells #[.int .i64 p.cands,.int .u8 p.kind,.slice a p.rows.length cap] 24)
 have hC := profCountM S _ p _ (h0.same (.of_below hb0))
 have HC := Lib.hid hC
 clear hC h0
 go_enter Tryz.func42,Tryz.ntmps42
 go_wp2_with (go_at_call 98;refine HC.out.mono ?_;rintro e w1 ⟨rfl,hb⟩)
 go_ret2
 exact ⟨rfl,bt hb0 hb⟩
end

section
open Go Go.RowKit Go.Shelf

theorem choOfO (S : Nat → Prop) (v : Value) (lot : List Int) (w : World) (h : RInts S w v lot) (hl : lot.length ≤ 1000000) :
  Calls Tryz.prog 62 #[v] w fun e w' => ∃ g vl,e = .returned (.pointer (some ⟨g,0,none⟩)) ∧ w'.heap[g]? = some (.cells #[.slice none 0 0,.slice none 0 0,.slice none 0 0,vl] 97 (0,0)) ∧ Own w.heap.size 3 1 (dInt .i64) w' vl lot ∧ (∀ b,vl.ownBlock = some b → b < g) ∧ w.heap.size ≤ g ∧ g + 1 = w'.heap.size ∧ Below w.heap.size w w' := by
 have hC := cloneInts S v lot w h (by omega)
 obtain ⟨a,cap,rfl,-,-⟩ := RSl.shape h
 have HC := Lib.hid hC
 clear hC h
 go_enter Tryz.func62,Tryz.ntmps62
 go_wp2_with (go_at_call 120;refine HC.out.mono ?_;rintro e w1 ⟨v1,rfl,ho1,hb1⟩;obtain ⟨a1,m1,c1,rfl⟩ := Own.slice ho1;have Ho1 := Lib.hid ho1;have Hb1 := Lib.hid hb1;clear ho1 hb1)
 go_ret
 exact ⟨_,_,rfl,qa8 w1 _,Own.below (S := fun _ => False) (dInt.stable _ _) Ho1.out (qa1 _ _),fun b hb => (Own.lt Ho1.out b hb).2,Hb1.out.size,by simp,Hb1.out.alloc Hb1.out.size _⟩
theorem slReverse (base : Nat) (v : Value) (xs : List Int) (w : World) (h : Own base 3 1 (dInt .i64) w v xs) (hl : xs.length ≤ 1000000) :
  Calls Tryz.prog 185 #[v] w fun e w' => e = .returned (.tuple #[]) ∧ Own base 3 1 (dInt .i64) w' v xs.reverse ∧ w.grownBy w' v.ownBlock := by
 rcases h.cur with ⟨h1,h2⟩ | ⟨g',cap,cur,he,hbg,hg,h1,h2,h3,h4,h5⟩
 ·subst h1
  subst h2
  refine (Tryz.slices_Reverse_int_empty none 0 w).mono ?_
  rintro e w' ⟨rfl,rfl⟩
  exact ⟨rfl,h,⟨rfl,rfl,rfl,Nat.le_refl _,fun _ _ _ => rfl⟩⟩
 ·subst he
  refine (Tryz.slices_Reverse_int g' 0 cap xs w (holds_of_blockI hg h4) (by omega)).mono ?_
  rintro e w' ⟨rfl,n,rfl⟩
  have hgr := grownBy_sortedI (w := w) (g := g') (n := n) (os := #[]) xs.reverse.toArray
  have hrow := ownsRow_sortedI (ts := xs.reverse) (ss := xs) (n := n) (os := #[]) (List.length_reverse) hbg hg h1 h2 h3
  rw [Go.Sort.grow_empty] at hgr hrow
  rw [← List.length_reverse] at hrow
  have hO := Own.ofInts hrow (fun x hx => h5 x (List.mem_reverse.1 hx))
  rw [List.length_reverse] at hO
  exact ⟨rfl,hO,hgr⟩
set_option maxHeartbeats 1000000 in
theorem choLastT (base : Nat) (S T U : Nat → Prop) (v : Value) (lot am : List Int) (ts : List Tie) (w : World) (g : Nat) (ve vr vt vl : Value) (hG : w.heap[g]? = some (.cells #[ve,vr,vt,vl] 97 (0,0))) (hgb : g < base) (hO : Own base 115 2 (dTie S) w vt ts) (hS : ∀ b,S b → base ≤ b ∧ b < w.heap.size ∧ some b ≠ vt.ownBlock)
  (hL : RInts U w vl lot) (h : RInts T w v am) (hne : am ≠ []) (hin : ∀ x ∈ am,x ∈ lot) (hx : (Lit.int .i64 (firstL lot.reverse am)).wf = true) (hb : base ≤ w.heap.size) (hl : ts.length ≤ 1000000) (hla : am.length ≤ 1000000) (hll : lot.length ≤ 1000000) :
  Calls Tryz.prog 129 #[.pointer (some ⟨g,0,none⟩),v] w fun e w' => e = .returned (.int .i64 (firstL lot.reverse am)) ∧ TellR base g S ve vr vt vl (ts ++ tieL (sortI am) (firstL lot.reverse am)) w w' := by
 have hgw := qa0 hG
 have hOf := choOfO U vl lot w hL hll
 have hRv := fun W vl2 (k : Own w.heap.size 3 1 (dInt .i64) W vl2 lot) => slReverse w.heap.size vl2 lot W k hll
 have hF := fun W g2 vl2 (hW : Below w.heap.size w W) (k1 : W.heap[g2]? = some (.cells #[.slice none 0 0,.slice none 0 0,.slice none 0 0,vl2] 97 (0,0))) (k2 : Own w.heap.size 3 1 (dInt .i64) W vl2 lot.reverse) =>
  choFirst (From w.heap.size) T v lot.reverse am W g2 _ _ _ vl2 k1 (Own.rsl k2 (by rw [List.length_reverse];omega)) (h.same (.of_below hW)) hne (fun x hx => List.mem_reverse.2 (hin x hx)) (by rw [List.length_reverse];exact hll)
 have hT := fun w1 (hb1 : Below w.heap.size w w1) => (choTell base S T v am (firstL lot.reverse am) ts w1 g ve vr vt vl ((hb1.block g hgw).trans hG) hgb (Own.below (dTie.stable S) hO hb1) (fun b k => ⟨(hS b k).1,Nat.lt_of_lt_of_le (hS b k).2.1 hb1.size,(hS b k).2.2⟩) (h.same (.of_below hb1)) hx (Nat.le_trans hb hb1.size) hl hla).mono fun e w2 ⟨k1,k2⟩ => (And.intro k1 (k2.back hb1 hgw))
 obtain ⟨F,hFe⟩ : ∃ F,firstL lot.reverse am = F := ⟨_,rfl⟩
 rw [hFe] at hF hT ⊢
 obtain ⟨a,cap,rfl,-,-⟩ := RSl.shape h
 obtain ⟨al,cl,rfl,-,-⟩ := RSl.shape hL
 obtain ⟨nl,hnl⟩ : ∃ n,lot.length = n := ⟨_,rfl⟩
 rw [hnl] at hG hOf hT ⊢
 have c3 := (qa6 (Below.refl _ w) hgw hG).2.1 3
 have HO := Lib.hid hOf;have HR := Lib.hid hRv;have HF := Lib.hid hF;have HT := Lib.hid hT
 clear hF hT hFe hG hO hS hL h hne hin hx hl hla hll hOf hRv hnl
 go_enter Tryz.func129,Tryz.ntmps129
 go_wp2_with (first
  | (go_at_call 62;refine HO.out.mono ?_;rintro e w1 ⟨g2,vl2,rfl,k1,k2,k3,k4,k5,hb1⟩;obtain ⟨a2,m2,c2,rfl⟩ := Own.slice k2;have K1 := Lib.hid k1;have K2 := Lib.hid k2;have K3 := Lib.hid k3;have B1 := Lib.hid hb1;have z3 := (qa6 (Below.refl _ w1) (qa0 k1) k1).2.1 3;clear k1 k2 k3 k4 k5 hb1)
  | (go_at_call 185;refine (HR.out _ _ K2.out).mono ?_;rintro e w2 ⟨rfl,k6,hg⟩;have K6 := Lib.hid k6;have hq : Below w.heap.size w w2 := B1.out.grown hg B1.out.size (fun k e => (Own.lt K2.out k e).1);have B2 := Lib.hid hq;have K7 := Lib.hid ((hg.block g2 (qa0 K1.out) (fun e => by have := K3.out g2 e.symm;omega)).trans K1.out);clear k6 hg hq)
  | (go_at_call 184;refine (HF.out _ _ _ B2.out K7.out K6.out).mono ?_;rintro e w3 ⟨rfl,hb3⟩;have B3 := Lib.hid (bt B2.out hb3);clear hb3)
  | (go_at_call 183;refine (HT.out _ B3.out).mono ?_;rintro e w4 ⟨rfl,hr4⟩;have Hr4 := Lib.hid hr4;clear hr4))
 go_ret
 exact ⟨rfl,Hr4.out⟩
end

section
open Go Go.RowKit Go.Shelf Limb

theorem find_at {l : List Int} {p : Int → Bool} {k : Nat} (hk : k < l.length) (h1 : p l[k] = true) (h2 : ∀ j (h : j < l.length),j < k → p l[j] = false) : l.find? p = some l[k] := by
 rw [List.find?_eq_some_iff_getElem]
 exact ⟨h1,k,hk,rfl,fun j hj => by rw [h2 j (by omega) hj];rfl⟩
theorem find_none {l : List Int} {p : Int → Bool} (h2 : ∀ j (h : j < l.length),p l[j] = false) : l.find? p = none := by
 rw [List.find?_eq_none]
 intro x hx
 obtain ⟨j,hj,rfl⟩ := List.getElem_of_mem hx
 rw [h2 j hj];simp
def IdxR (l : List Int) (p : Int → Bool) (r : Int) : Prop := (l.find? p = none ∧ r = -1) ∨ ∃ (k : Nat) (hk : k < l.length),r = (k : Int) ∧ l.find? p = some l[k]
set_option maxHeartbeats 400000 in
theorem slIndexF (S : Nat → Prop) (v : Value) (l : List Int) (w : World) (h : RInts S w v l) (hl : l.length ≤ 1000000) (g : Nat) (lb : Array Value) (eg : ∀ args w,(callFunc g args).run Tryz.prog w = .ok (.enter g args) w) (p : Int → Bool)
  (hp : ∀ W x,Below w.heap.size w W → x ∈ l → Calls Tryz.prog g (#[.int .i64 x] ++ lb) W fun e w' => e = .returned (.bool (p x)) ∧ Below W.heap.size W w') :
  Calls Tryz.prog 160 #[v,.func (.func g) #[] lb] w fun e w' => ∃ r : Int,e = .returned (.int .i64 r) ∧ IdxR l p r ∧ Below w.heap.size w w' := by
 obtain ⟨a,cap,rfl,-,-⟩ := RSl.shape h
 obtain ⟨n,hn⟩ : ∃ n,l.length = n := ⟨_,rfl⟩
 rw [hn] at h hl ⊢
 have hH := fun W (hW : Below w.heap.size w W) => h.same (.of_below hW)
 have HH := Lib.hid hH;have Hn := Lib.hid hn;have HP := Lib.hid hp
 clear hH h hn hp
 go_enter Tryz.func160,Tryz.ntmps160
 go_wp2
 go_loopw [5,8] (fun _ i wr => ∃ k : Nat,k ≤ n ∧ i = .int .i64 k ∧ Hid (∀ j (h : j < l.length),j < k → p l[j] = false) ∧ Below w.heap.size w wr) (fun _ i _ => n - (intOf i).toNat)
 case atStart => exact ⟨0,Nat.zero_le _,rfl,Lib.hid (fun _ _ h => absurd h (by omega)),Below.refl _ _⟩
 case round =>
  obtain ⟨k,hk,rfl,hne,hb⟩ := hrel
  have hz := hb.size
  by_cases hlt : k < n
  ·have hlr : k < l.length := by rw [Hn.out]; exact hlt
   obtain ⟨b,off,cc,rfl,-,hbw,hc,hx⟩ := RSl.at1 (HH.out wr hb) k hlr
   obtain ⟨rfl,-⟩ := hx.open
   have hQ := HP.out wr l[k] hb (List.getElem_mem hlr)
   obtain ⟨x,hx2⟩ : ∃ x,l[k] = x := ⟨_,rfl⟩
   rw [hx2] at hc hQ
   cases hpb : p x with
   | true =>
    rw [hpb] at hQ
    have hr : IdxR l p (k : Int) := .inr ⟨k,hlr,rfl,find_at hlr (by rw [hx2];exact hpb) hne.out⟩
    have HQ := Lib.hid hQ;have Hr := Lib.hid hr
    clear hQ hr hx hx2 hpb hlr
    go_wp2_with (go_at_fn g;refine HQ.out.mono ?_;rintro e w1 ⟨rfl,hb1⟩)
    go_ret
    exact ⟨_,rfl,Hr.out,hb.trans (hb1.mono hz)⟩
   | false =>
    rw [hpb] at hQ
    have hst : ∀ j (h : j < l.length),j < k + 1 → p l[j] = false := fun j hj hjk => by
     by_cases e : j = k
     ·subst e;rw [hx2];exact hpb
     ·exact hne.out j hj (by omega)
    have HQ := Lib.hid hQ;have Hst := Lib.hid hst
    clear hQ hst hx hx2 hpb hlr
    go_wp2_with (go_at_fn g;refine HQ.out.mono ?_;rintro e w1 ⟨rfl,hb1⟩)
    exact ⟨⟨k + 1,by omega,by go_num,Hst,hb.trans (hb1.mono hz)⟩,by simp [intOf];omega⟩
  ·obtain rfl : k = n := by omega
   have hr : IdxR l p (-1) := .inl ⟨find_none fun j hj => hne.out j hj (by rw [← Hn.out];exact hj),rfl⟩
   have Hr := Lib.hid hr
   clear hr
   go_wp2
   go_ret
   exact ⟨_,rfl,Hr.out,hb⟩
def dVal (_ : World) (cs : List Value) (x : Value) : Prop := cs = [x] ∧ x.oneCell' = true
theorem dVal.stable (S : Nat → Prop) : Stable S dVal := fun _ _ _ _ _ h => h
theorem dVal.one : OneC dVal := fun w cs x h u hu => by obtain ⟨rfl,h1⟩ := h;rw [List.mem_singleton.1 hu];exact h1
def stV (inn el : List Int) (x : Int) : Value := if inn.contains x then .iface 95 (.agg #[]) else .iface 151 (.agg #[.bool (el.contains x)])
def stL (C : Nat) (inn el : List Int) : List Value := (List.range C).map fun (x : Nat) => stV inn el (x : Int)
theorem stL_length (C : Nat) (inn el : List Int) : (stL C inn el).length = C := by simp [stL]
theorem stL_get {C : Nat} {inn el : List Int} {k : Nat} (h : k < (stL C inn el).length) : (stL C inn el)[k] = stV inn el (k : Int) := by simp [stL]
structure StR (gc C : Nat) (vst : Value) (inn el : List Int) (w : World) : Prop where
 cell : w.cell? ⟨gc,2,none⟩ = some vst
 sts : RSl Any 1 dVal w vst (stL C inn el)
theorem StR.below {gc C : Nat} {vst : Value} {inn el : List Int} {w w' : World} (h : StR gc C vst inn el w) (hb : Below w.heap.size w w') : StR gc C vst inn el w' :=
 ⟨(Same.of_below (S := Any) hb).cell trivial h.cell,RSl.same (dVal.stable _) (.of_below hb) h.sts⟩
theorem StR.at {gc C : Nat} {vst : Value} {inn el : List Int} {w : World} (h : StR gc C vst inn el w) {x : Nat} (hx : x < C) : ∃ b off cap,vst = .slice (some ⟨b,off,none⟩) C cap ∧ b < w.heap.size ∧ w.cell? ⟨b,off + x,none⟩ = some (stV inn el (x : Int)) := by
 obtain ⟨b,off,cap,c,hv,-,hc,hd⟩ := RSl.get1 h.sts x (by rw [stL_length];exact hx)
 rw [stL_length] at hv
 rw [stL_get] at hd
 obtain ⟨hd,-⟩ := hd
 simp only [List.cons.injEq,and_true] at hd
 exact ⟨b,off,cap,hv,qag hc,by rw [hc,hd]⟩
end

section
open Go Go.RowKit Go.Shelf Limb

theorem filter_all {l : List Int} {C : Nat} (h1 : l.Pairwise (fun a b => a < b)) (h2 : ∀ x ∈ l,0 ≤ x ∧ x < (C : Int)) : (rngI C).filter (fun y => l.contains y) = l := by
 have hs : List.Perm ((rngI C).filter (fun y => l.contains y)) l := (List.perm_ext_iff_of_nodup ((rngI_nodup C).filter _) (qaz h1)).2 fun x => by
  rw [List.mem_filter,mem_rngI,List.contains_iff_mem]
  exact ⟨fun h => h.2,fun h => ⟨h2 x h,h⟩⟩
 exact hs.eq_of_pairwise (fun a b _ _ h3 h4 => by omega) ((rngI_asc2 C).filter _) h1
end

section
open Go Go.RowKit Go.Shelf Limb

def valG (rv : RV) : Int := (rv.map fun p => p.1.many * p.2).sum
theorem cntG_valG {inn : List Int} {rv : RV} (h : ∀ p ∈ rv,0 ≤ p.1.many ∧ 0 ≤ p.2) (x : Int) : 0 ≤ cntG inn rv x ∧ cntG inn rv x ≤ valG rv := by
 induction rv with
 | nil => exact ⟨Int.le_refl _,Int.le_refl _⟩
 | cons p rv ih =>
  obtain ⟨i1,i2⟩ := ih fun q hq => h q (List.mem_cons_of_mem _ hq)
  obtain ⟨p1,p2⟩ := h p List.mem_cons_self
  have := Int.mul_nonneg p1 p2
  rw [cntG,valG,List.map_cons,List.sum_cons,List.map_cons,List.sum_cons]
  rw [cntG] at i1 i2;rw [valG] at i2
  split <;> omega
theorem valG_nonneg {rv : RV} (h : ∀ p ∈ rv,0 ≤ p.1.many ∧ 0 ≤ p.2) : 0 ≤ valG rv := Int.le_trans (cntG_valG (inn := []) h 0).1 (cntG_valG (inn := []) h 0).2
theorem valG_append (a b : RV) : valG (a ++ b) = valG a + valG b := by simp [valG]
theorem valG_take {rv : RV} (h : ∀ p ∈ rv,0 ≤ p.1.many ∧ 0 ≤ p.2) (k : Nat) : valG (rv.take k) ≤ valG rv := by
 have h1 := valG_append (rv.take k) (rv.drop k)
 rw [List.take_append_drop] at h1
 have := valG_nonneg (rv := rv.drop k) fun p hp => h p (List.mem_of_mem_drop hp)
 omega
structure GVal (C : Nat) (rv : RV) : Prop where
 nonneg : ∀ p ∈ rv,0 ≤ p.1.many ∧ 0 ≤ p.2
 total : valG rv ≤ 1000000000000000
 marks : ∀ p ∈ rv,p.1.marks.length ≤ 1000 ∧ ∀ x ∈ p.1.marks,0 ≤ x ∧ x < (C : Int)
 len : rv.length ≤ 64
theorem GVal.cnt {C : Nat} {rv : RV} (h : GVal C rv) (inn : List Int) (k : Nat) (x : Int) : 0 ≤ cntG inn (rv.take k) x ∧ cntG inn (rv.take k) x ≤ 1000000000000000 := by
 have h1 := cntG_valG (inn := inn) (rv := rv.take k) (fun p hp => h.nonneg p (List.mem_of_mem_take hp)) x
 have := valG_take h.nonneg k
 have := h.total
 omega
def dGRow (S : Nat → Prop) (w : World) (cs : List Value) (x : Row × Int) : Prop :=
 ∃ v,cs = [v,.int .i64 x.1.many,.int .i64 x.2] ∧ (Lit.int .i64 x.1.many).wf = true ∧ (Lit.int .i64 x.2).wf = true ∧ RInts S w v x.1.marks
theorem dGRow.stable (S : Nat → Prop) : Stable S (dGRow S) := fun _ _ _ _ hs ⟨v,h1,h2,h3,h4⟩ => ⟨v,h1,h2,h3,h4.same hs⟩
theorem dGRow.mono {S T : Nat → Prop} {w : World} {cs : List Value} {x : Row × Int} (hT : ∀ b,S b → T b) (h : dGRow S w cs x) : dGRow T w cs x :=
 let ⟨v,h1,h2,h3,h4⟩ := h;⟨v,h1,h2,h3,h4.mono hT⟩
theorem dGRow.one (S : Nat → Prop) : OneC (dGRow S) := by
 intro w cs x h u hu;obtain ⟨v,rfl,_,_,hv⟩ := h;simp at hu;rcases hu with rfl | rfl | rfl
 ·exact qb6 hv
 ·rfl
 ·rfl
theorem dGRow.open {S : Nat → Prop} {w : World} {c d e : Value} {x : Row × Int} (h : dGRow S w [c,d,e] x) :
  ∃ a cap,c = .slice a x.1.marks.length cap ∧ d = .int .i64 x.1.many ∧ e = .int .i64 x.2 ∧ (Lit.int .i64 x.1.many).wf = true ∧ (Lit.int .i64 x.2).wf = true ∧ RInts S w (.slice a x.1.marks.length cap) x.1.marks := by
 obtain ⟨v,h1,h2,h3,h4⟩ := h
 simp only [List.cons.injEq,and_true] at h1
 obtain ⟨rfl,rfl,rfl⟩ := h1
 obtain ⟨a,cap,hv,_,hl⟩ := RSl.shape h4
 exact ⟨a,cap,hv,rfl,rfl,h2,h3,hv ▸ h4⟩
structure GroR (S : Nat → Prop) (gc C : Nat) (vr vst : Value) (seats Q votes : Int) (rv : RV) (inn el : List Int) (w : World) : Prop where
 st : StR gc C vst inn el w
 c1 : w.cell? ⟨gc,1,none⟩ = some vr
 c3 : w.cell? ⟨gc,3,none⟩ = some (.int .i64 seats)
 c4 : w.cell? ⟨gc,4,none⟩ = some (.int .i64 Q)
 c5 : w.cell? ⟨gc,5,none⟩ = some (.int .i64 votes)
 rows : RSl S 3 (dGRow S) w vr rv
theorem GroR.below {S : Nat → Prop} {gc C : Nat} {vr vst : Value} {seats Q votes : Int} {rv : RV} {inn el : List Int} {w w' : World} (h : GroR S gc C vr vst seats Q votes rv inn el w) (hb : Below w.heap.size w w') : GroR S gc C vr vst seats Q votes rv inn el w' :=
 ⟨h.st.below hb,(Same.of_below (S := Any) hb).cell trivial h.c1,(Same.of_below (S := Any) hb).cell trivial h.c3,(Same.of_below (S := Any) hb).cell trivial h.c4,(Same.of_below (S := Any) hb).cell trivial h.c5,RSl.same (dGRow.stable _) (.of_below hb) h.rows⟩
end

section
open Go Go.RowKit

section
variable {α : Type} {base n : Nat} {e : TypeId} {dec : World → List Value → α → Prop} {w : World} {v : Value} {xs : List α}
theorem Own.cells (h : Own base e n dec w v xs) (h0 : 0 < xs.length) : ∃ g cap cs,v = .slice (some ⟨g,0,none⟩) xs.length cap ∧ base ≤ g ∧ g < w.heap.size ∧ (∀ o,w.frozen? ⟨g,o,none⟩ = false) ∧ (∀ j u,cs[j]? = some u → w.cell? ⟨g,j,none⟩ = some u) ∧ Dec n dec w cs xs := by
 obtain ⟨cells,⟨hl,ho⟩,hd⟩ := h
 rcases ho with ⟨-,h1⟩ | ⟨g,cap,cur,hv,h1,h2,h3,h4,h5,h6⟩
 ·omega
 ·refine ⟨g, cap, cells, hv, h1, qa0 h2, fun o => by simp [World.frozen?, h2], fun j u hu => ?_, hd⟩
  have hj : j < xs.length * n := by
   rcases Nat.lt_or_ge j cells.length with h7 | h7
   ·omega
   ·rw [List.getElem?_eq_none h7] at hu;cases hu
  rw [← h6,List.getElem?_take_of_lt hj] at hu
  simp only [Array.getElem?_toList] at hu
  simp [World.cell?,h2,hu]
theorem Own.at3 {α : Type} {base : Nat} {e : TypeId} {dec : World → List Value → α → Prop} {w : World} {v : Value} {xs : List α} (h : Own base e 3 dec w v xs) {k : Nat} (hk : k < xs.length) :
  ∃ g cap c d f,v = .slice (some ⟨g,0,none⟩) xs.length cap ∧ base ≤ g ∧ g < w.heap.size ∧ (∀ o,w.frozen? ⟨g,o,none⟩ = false) ∧ w.cell? ⟨g,k * 3,none⟩ = some c ∧ w.cell? ⟨g,k * 3 + 1,none⟩ = some d ∧ w.cell? ⟨g,k * 3 + 2,none⟩ = some f ∧ dec w [c,d,f] xs[k] := by
 obtain ⟨g,cap,cs,h1,h2,h3,h4,h5,h6,h7⟩ := h.cells (by omega)
 have hd := h7 k hk
 have hlen : k * 3 + 2 < cs.length := by omega
 have e1 : cs[k * 3]? = some cs[k * 3] := List.getElem?_eq_getElem (by omega)
 have e2 : cs[k * 3 + 1]? = some cs[k * 3 + 1] := List.getElem?_eq_getElem (by omega)
 have e3 : cs[k * 3 + 2]? = some cs[k * 3 + 2] := List.getElem?_eq_getElem hlen
 refine ⟨g,cap,_,_,_,h1,h2,h3,h4,h5 _ _ e1,h5 _ _ e2,h5 _ _ e3,?_⟩
 have : (cs.drop (k * 3)).take 3 = [cs[k * 3],cs[k * 3 + 1],cs[k * 3 + 2]] := by
  rw [List.drop_eq_getElem_cons (by omega),List.drop_eq_getElem_cons (by omega),List.drop_eq_getElem_cons (by omega)]
  rfl
 rw [← this];exact hd
theorem Own.at1 {α : Type} {base : Nat} {e : TypeId} {dec : World → List Value → α → Prop} {w : World} {v : Value} {xs : List α} (h : Own base e 1 dec w v xs) {k : Nat} (hk : k < xs.length) :
  ∃ g cap c,v = .slice (some ⟨g,0,none⟩) xs.length cap ∧ base ≤ g ∧ g < w.heap.size ∧ (∀ o,w.frozen? ⟨g,o,none⟩ = false) ∧ w.cell? ⟨g,k,none⟩ = some c ∧ dec w [c] xs[k] := by
 obtain ⟨g,cap,cs,h1,h2,h3,h4,h5,h6,h7⟩ := h.cells (by omega)
 have hd := h7 k hk
 have hlen : k < cs.length := by omega
 have e1 : cs[k]? = some cs[k] := List.getElem?_eq_getElem hlen
 refine ⟨g,cap,_,h1,h2,h3,h4,h5 _ _ e1,?_⟩
 have : (cs.drop (k * 1)).take 1 = [cs[k]] := by
  rw [Nat.mul_one,List.drop_eq_getElem_cons hlen];rfl
 rw [← this];exact hd
theorem Own.setAt {S : Nat → Prop} (hst : Stable S dec) (h : Own base e n dec w v xs) {g : Nat} (hv : v.ownBlock = some g) (hS : ∀ b,S b → b ≠ g) {k j : Nat} (hk : k < xs.length) (hj : j < n) (u : Value) (y : α)
  (hy : ∀ cs,dec w cs xs[k] → dec w (cs.set j u) y) : Own base e n dec (w.setCell ⟨g,k * n + j,none⟩ u) v (xs.set k y) := by
 obtain ⟨cells,⟨hl,ho⟩,hd⟩ := h
 rcases ho with ⟨-,h1⟩ | ⟨g',cap,cur,rfl,h1,h2,h3,h4,h5,h6⟩
 ·omega
 ·obtain rfl : g' = g := Option.some.inj hv
  have hkj : k * n + j < xs.length * n := by
   have : (k + 1) * n ≤ xs.length * n := Nat.mul_le_mul_right _ hk
   rw [Nat.add_mul] at this;omega
  refine ⟨cells.set (k * n + j) u,⟨by rw [List.length_set,List.length_set];exact hl,.inr ⟨g',cap,cur.setIfInBounds (k * n + j) u,by rw [List.length_set],h1,qa2 h2 u,by rw [List.length_set];exact h3,h4,by simpa using h5,?_⟩⟩,by rw [List.length_set,List.length_set];exact hd.1,fun i hi => ?_⟩
  ·rw [List.length_set,Array.toList_setIfInBounds,List.take_set,h6]
  ·rw [List.length_set] at hi
   have hsame : Same S w (w.setCell ⟨g',k * n + j,none⟩ u) := (Same.refl _ _).setCell (fun hb => hS _ hb rfl) _
   refine hst _ _ _ _ hsame ?_
   have hdi := hd.2 i hi
   rw [List.getElem_set]
   by_cases hik : k = i
   ·subst hik
    rw [if_pos rfl,List.drop_set,if_neg (by omega),List.take_set,show k * n + j - k * n = j from by omega]
    exact hy _ hdi
   ·rw [if_neg hik]
    rcases Nat.lt_or_ge i k with hlt | hge
    ·have : (i + 1) * n ≤ k * n := Nat.mul_le_mul_right _ hlt
     rw [Nat.add_mul] at this
     rw [List.drop_set,if_neg (by omega),List.take_set,List.set_eq_of_length_le (by rw [List.length_take];omega)]
     exact hdi
    ·have : (k + 1) * n ≤ i * n := Nat.mul_le_mul_right _ (by omega)
     rw [Nat.add_mul] at this
     rw [List.drop_set,if_pos (by omega)]
     exact hdi
end
end

section
open Go Go.RowKit Go.Shelf Limb

theorem StR.keep {K : Blks} {T : Nat → Prop} {gc C : Nat} {vst : Value} {inn el : List Int} {w w1 : World} (hc : w.cell? ⟨gc,2,none⟩ = some vst) (hs : RSl T 1 dVal w vst (stL C inn el)) (hk : Keep K w w1) (hT : ∀ b,T b → some b ∉ K) (hg : some gc ∉ K) : StR gc C vst inn el w1 :=
 ⟨(hk.same (S := fun b => some b ∉ K) (fun _ h => h)).cell hg hc,RSl.mono (fun _ _ _ h => h) (fun _ _ => trivial) (RSl.same (dVal.stable T) (hk.same hT) hs)⟩
end

section
open Go Go.RowKit Go.Shelf Limb

structure GCn where
 lo : Nat
 gC : Nat
 gc : Nat
 C : Nat
 seats : Int
 Q : Int
 votes : Int
 lot : List Int
 vl : Value
 x : Blks
def TyAt (w : World) (b : Nat) (t : TypeId) : Prop := ∃ cur fr,w.heap[b]? = some (.cells cur t fr)
theorem TyAt.inj {w : World} {b : Nat} {t u : TypeId} (h : TyAt w b t) (k : TyAt w b u) : t = u := by
 obtain ⟨c1,f1,h⟩ := h;obtain ⟨c2,f2,k⟩ := k
 rw [h] at k;simp only [Option.some.injEq,Obj.cells.injEq] at k;exact k.2.1
abbrev TBlks := List (Option Nat × TypeId)
def GCn.L (k : GCn) (ve vrd vt vr vst : Value) : TBlks := [(some k.gC,97),(some k.gc,91),(ve.ownBlock,3),(vrd.ownBlock,58),(vt.ownBlock,115),(vr.ownBlock,93),(vst.ownBlock,153)]
def GCn.M (k : GCn) (ve vrd vt vr vst : Value) : Blks := [some k.gC,some k.gc,ve.ownBlock,vrd.ownBlock,vt.ownBlock,vr.ownBlock,vst.ownBlock]
abbrev GCn.R (k : GCn) (w : World) (ve vrd vt vr vst : Value) : Nat → Prop := Rk (k.x ++ k.M ve vrd vt vr vst) (k.gc + 1) w
structure GSt (k : GCn) (w : World) (ve vrd vt vr vst : Value) (rv : RV) (inn el ee : List Int) (rounds : List Rnd) (ties : List Tie) : Prop where
 bC : w.heap[k.gC]? = some (.cells #[ve,vrd,vt,k.vl] 97 (0,0))
 bc : w.heap[k.gc]? = some (.cells #[.pointer (some ⟨k.gC,0,none⟩),vr,vst,.int .i64 k.seats,.int .i64 k.Q,.int .i64 k.votes] 91 (0,0))
 oe : Own (k.gc + 1) 3 1 (dInt .i64) w ve ee
 ord : Own (k.gc + 1) 58 6 (dRnd (k.R w ve vrd vt vr vst)) w vrd rounds
 ot : Own (k.gc + 1) 115 2 (dTie (k.R w ve vrd vt vr vst)) w vt ties
 or : Own (k.gc + 1) 93 3 (dGRow fun b => b < k.lo) w vr rv
 os : Own (k.gc + 1) 153 1 dVal w vst (stL k.C inn el)
 lot : RInts (fun b => k.lo ≤ b ∧ b < k.gC) w k.vl k.lot
 l1 : k.lo ≤ k.gC
 l2 : k.gC < k.gc
 lx : ∀ b,some b ∈ k.x → b < w.heap.size
section
variable {k : GCn} {w w1 : World} {ve vrd vt vr vst ve' vrd' vt' : Value} {rv rv' : RV} {inn el ee inn' el' ee' : List Int} {rounds rounds' : List Rnd} {ties ties' : List Tie} {K : TBlks}
theorem GSt.typed (h : GSt k w ve vrd vt vr vst rv inn el ee rounds ties) : ∀ p ∈ k.L ve vrd vt vr vst,∀ b,p.1 = some b → TyAt w b p.2 := by
 have own : ∀ {α : Type} {n : Nat} {e : TypeId} {dec : World → List Value → α → Prop} {v : Value} {xs : List α} (h : Own (k.gc + 1) e n dec w v xs) b,v.ownBlock = some b → TyAt w b e := fun h b hb => by
  obtain ⟨cur,h1⟩ := own_type h hb
  exact ⟨cur,_,h1⟩
 intro p hp b hb
 simp only [GCn.L,List.mem_cons,List.not_mem_nil,or_false] at hp
 rcases hp with rfl | rfl | rfl | rfl | rfl | rfl | rfl
 ·cases hb;exact ⟨_,_,h.bC⟩
 ·cases hb;exact ⟨_,_,h.bc⟩
 ·exact own h.oe b hb
 ·exact own h.ord b hb
 ·exact own h.ot b hb
 ·exact own h.or b hb
 ·exact own h.os b hb
theorem GSt.big (h : GSt k w ve vrd vt vr vst rv inn el ee rounds ties) : k.gc + 1 ≤ w.heap.size := qa0 h.bc
theorem GSt.low (h : GSt k w ve vrd vt vr vst rv inn el ee rounds ties) : ∀ b,some b ∈ k.M ve vrd vt vr vst → k.gC ≤ b ∧ b < w.heap.size := by
 intro b hb
 have l2 := h.l2
 have hbg := h.big
 simp only [GCn.M,List.mem_cons,List.not_mem_nil,or_false,Option.some.injEq] at hb
 rcases hb with rfl | rfl | e | e | e | e | e
 ·omega
 ·omega
 ·have := Own.lt h.oe b e.symm;omega
 ·have := Own.lt h.ord b e.symm;omega
 ·have := Own.lt h.ot b e.symm;omega
 ·have := Own.lt h.or b e.symm;omega
 ·have := Own.lt h.os b e.symm;omega
theorem L_M {k : GCn} : (k.L ve vrd vt vr vst).map Prod.fst = k.M ve vrd vt vr vst := rfl
theorem GSt.sub (hK : ∀ p ∈ K,p ∈ k.L ve vrd vt vr vst) : ∀ b,some b ∈ K.map Prod.fst → some b ∈ k.M ve vrd vt vr vst := by
 intro b hb
 obtain ⟨p,hp,he⟩ := List.mem_map.1 hb
 rw [← L_M]
 exact List.mem_map.2 ⟨p,hK p hp,he⟩
theorem GSt.kr (hk : Keep (K.map Prod.fst) w w1) (hM : ∀ b,b < w.heap.size → some b ∈ k.M ve' vrd' vt' vr vst → some b ∈ k.M ve vrd vt vr vst) : ∀ b,k.R w ve vrd vt vr vst b → k.R w1 ve' vrd' vt' vr vst b := Rk.up hk.size fun b hb hm => (List.mem_append.1 hm).elim (fun e => List.mem_append_left _ e) (fun hm => List.mem_append_right _ (hM b hb hm))
theorem GSt.out (h : GSt k w ve vrd vt vr vst rv inn el ee rounds ties) (hK : ∀ p ∈ K,p ∈ k.L ve vrd vt vr vst) {o : Option Nat} {t : TypeId} (ho : (o,t) ∈ k.L ve vrd vt vr vst) (hne : ∀ p ∈ K,p.2 ≠ t) : ∀ b,o = some b → some b ∉ K.map Prod.fst := by
 intro b hb hm
 obtain ⟨p,hp,he⟩ := List.mem_map.1 hm
 exact hne p hp ((h.typed p (hK p hp) b he).inj (h.typed _ ho b hb))
section
variable (h : GSt k w ve vrd vt vr vst rv inn el ee rounds ties) (hk : Keep (K.map Prod.fst) w w1) (hK : ∀ p ∈ K,p ∈ k.L ve vrd vt vr vst)
include h hk hK
theorem GSt.kbC (hne : ∀ p ∈ K,p.2 ≠ 97) : w1.heap[k.gC]? = some (.cells #[ve,vrd,vt,k.vl] 97 (0,0)) :=
 hk.box h.bC (h.out hK (o := some k.gC) (by simp [GCn.L]) hne _ rfl)
theorem GSt.kbc (hne : ∀ p ∈ K,p.2 ≠ 91) : w1.heap[k.gc]? = some (.cells #[.pointer (some ⟨k.gC,0,none⟩),vr,vst,.int .i64 k.seats,.int .i64 k.Q,.int .i64 k.votes] 91 (0,0)) :=
 hk.box h.bc (h.out hK (o := some k.gc) (by simp [GCn.L]) hne _ rfl)
theorem GSt.koe (hne : ∀ p ∈ K,p.2 ≠ 3) : Own (k.gc + 1) 3 1 (dInt .i64) w1 ve ee :=
 hk.own (S := fun _ => False) (dInt.stable _ _) h.oe (h.out hK (by simp [GCn.L]) hne) (fun _ h => h.elim)
theorem GSt.kord (hne : ∀ p ∈ K,p.2 ≠ 58) (hM : ∀ b,b < w.heap.size → some b ∈ k.M ve' vrd' vt' vr vst → some b ∈ k.M ve vrd vt vr vst) : Own (k.gc + 1) 58 6 (dRnd (k.R w1 ve' vrd' vt' vr vst)) w1 vrd rounds :=
 Own.dmono (fun _ _ hd => dRnd.mono (GSt.kr hk hM) hd) (hk.own (dRnd.stable _) h.ord (h.out hK (by simp [GCn.L]) hne) (Rk.out fun b hb => List.mem_append_right _ (GSt.sub hK b hb)))
theorem GSt.kot (hne : ∀ p ∈ K,p.2 ≠ 115) (hM : ∀ b,b < w.heap.size → some b ∈ k.M ve' vrd' vt' vr vst → some b ∈ k.M ve vrd vt vr vst) : Own (k.gc + 1) 115 2 (dTie (k.R w1 ve' vrd' vt' vr vst)) w1 vt ties :=
 Own.dmono (fun _ _ hd => dTie.mono (GSt.kr hk hM) hd) (hk.own (dTie.stable _) h.ot (h.out hK (by simp [GCn.L]) hne) (Rk.out fun b hb => List.mem_append_right _ (GSt.sub hK b hb)))
theorem GSt.kor (hne : ∀ p ∈ K,p.2 ≠ 93) : Own (k.gc + 1) 93 3 (dGRow fun b => b < k.lo) w1 vr rv :=
 hk.own (dGRow.stable _) h.or (h.out hK (by simp [GCn.L]) hne) (fun b hb hm => by have := (h.low b (GSt.sub hK b hm)).1;have := h.l1;omega)
theorem GSt.kos (hne : ∀ p ∈ K,p.2 ≠ 153) : Own (k.gc + 1) 153 1 dVal w1 vst (stL k.C inn el) :=
 hk.own (S := fun _ => False) (dVal.stable _) h.os (h.out hK (by simp [GCn.L]) hne) (fun _ h => h.elim)
theorem GSt.klot : RInts (fun b => k.lo ≤ b ∧ b < k.gC) w1 k.vl k.lot :=
 hk.rints h.lot (fun b hb hm => by have := (h.low b (GSt.sub hK b hm)).1;omega)
end
theorem GSt.mv (h1 : Mv w ve ve') (h2 : Mv w vrd vrd') (h3 : Mv w vt vt') : ∀ b,b < w.heap.size → some b ∈ k.M ve' vrd' vt' vr vst → some b ∈ k.M ve vrd vt vr vst := by
 intro b hb hm
 simp only [GCn.M,List.mem_cons,List.not_mem_nil,or_false] at hm ⊢
 rcases hm with e | e | e | e | e | e | e
 ·exact .inl e
 ·exact .inr (.inl e)
 ·exact .inr (.inr (.inl (h1.of hb e)))
 ·exact .inr (.inr (.inr (.inl (h2.of hb e))))
 ·exact .inr (.inr (.inr (.inr (.inl (h3.of hb e)))))
 ·exact .inr (.inr (.inr (.inr (.inr (.inl e)))))
 ·exact .inr (.inr (.inr (.inr (.inr (.inr e)))))
theorem Mv.refl (w : World) (v : Value) : Mv w v v := .inl rfl
theorem GSt.below (h : GSt k w ve vrd vt vr vst rv inn el ee rounds ties) (hb : Below w.heap.size w w1) : GSt k w1 ve vrd vt vr vst rv inn el ee rounds ties :=
 have hk : Keep (([] : TBlks).map Prod.fst) w w1 := Keep.of_below hb
 have hK : ∀ p ∈ ([] : TBlks),p ∈ k.L ve vrd vt vr vst := fun _ h => by cases h
 have hn : ∀ t : TypeId,∀ p ∈ ([] : TBlks),p.2 ≠ t := fun _ _ h => by cases h
 have hM := GSt.mv (k := k) (vr := vr) (vst := vst) (Mv.refl w ve) (Mv.refl w vrd) (Mv.refl w vt)
 ⟨h.kbC hk hK (hn _),h.kbc hk hK (hn _),h.koe hk hK (hn _),h.kord hk hK (hn _) hM,h.kot hk hK (hn _) hM,h.kor hk hK (hn _),h.kos hk hK (hn _),h.klot hk hK,h.l1,h.l2,fun b hb => Nat.lt_of_lt_of_le (h.lx b hb) hk.size⟩
theorem GSt.state (h : GSt k w ve vrd vt vr vst rv inn el ee rounds ties) {j gs : Nat} (hj : j < k.C) (hg : vst.ownBlock = some gs) (u : Value) (hu : u.oneCell' = true) (hL : stL k.C inn' el' = (stL k.C inn el).set j u) :
  GSt k (w.setCell ⟨gs,j,none⟩ u) ve vrd vt vr vst rv inn' el' ee rounds ties ∧ Keep [vst.ownBlock] w (w.setCell ⟨gs,j,none⟩ u) := by
 have hk : Keep ([(vst.ownBlock,153)].map Prod.fst) w (w.setCell ⟨gs,j,none⟩ u) := (Keep.refl _ w).setIn gs j u (.inl (by rw [← hg];simp))
 have hK : ∀ p ∈ ([(vst.ownBlock,153)] : TBlks),p ∈ k.L ve vrd vt vr vst := fun p hp => by rw [List.mem_singleton.1 hp];simp [GCn.L]
 have hn : ∀ t : TypeId,t ≠ 153 → ∀ p ∈ ([(vst.ownBlock,153)] : TBlks),p.2 ≠ t := fun t ht p hp => by rw [List.mem_singleton.1 hp];exact fun e => ht e.symm
 have hM := GSt.mv (k := k) (vr := vr) (vst := vst) (Mv.refl w ve) (Mv.refl w vrd) (Mv.refl w vt)
 refine ⟨⟨h.kbC hk hK (hn _ (by decide)),h.kbc hk hK (hn _ (by decide)),h.koe hk hK (hn _ (by decide)),h.kord hk hK (hn _ (by decide)) hM,h.kot hk hK (hn _ (by decide)) hM,h.kor hk hK (hn _ (by decide)),?_,h.klot hk hK,h.l1,h.l2,fun b hb => Nat.lt_of_lt_of_le (h.lx b hb) hk.size⟩,hk⟩
 rw [hL]
 have := Own.setAt (S := fun _ => False) (dVal.stable _) h.os hg (fun _ h => h.elim) (k := j) (j := 0) (by rw [stL_length];exact hj) (by omega) u u (fun cs hd => by obtain ⟨rfl,-⟩ := hd;exact ⟨rfl,hu⟩)
 simpa using this
theorem GSt.elected (h : GSt k w ve vrd vt vr vst rv inn el ee rounds ties) (hO : Own (k.gc + 1) 3 1 (dInt .i64) w1 ve' ee') (hg : w.grownBy w1 ve.ownBlock) (hm : Mv w ve ve') :
  GSt k (w1.setCell ⟨k.gC,0,none⟩ ve') ve' vrd vt vr vst rv inn el ee' rounds ties ∧ Keep [some k.gC,ve.ownBlock] w (w1.setCell ⟨k.gC,0,none⟩ ve') := by
 have hk1 : Keep ([(ve.ownBlock,3)].map Prod.fst) w w1 := Keep.of_grown hg
 have hK1 : ∀ p ∈ ([(ve.ownBlock,3)] : TBlks),p ∈ k.L ve vrd vt vr vst := fun p hp => by rw [List.mem_singleton.1 hp];simp [GCn.L]
 have hC := h.kbC hk1 hK1 (fun p hp => by rw [List.mem_singleton.1 hp];dsimp only;decide)
 have hk : Keep ([(some k.gC,97),(ve.ownBlock,3)].map Prod.fst) w (w1.setCell ⟨k.gC,0,none⟩ ve') := Keep.set hk1 _ _ _
 have hK : ∀ p ∈ ([(some k.gC,97),(ve.ownBlock,3)] : TBlks),p ∈ k.L ve vrd vt vr vst := fun p hp => by
  simp only [List.mem_cons,List.not_mem_nil,or_false] at hp
  rcases hp with rfl | rfl <;> simp [GCn.L]
 have hn : ∀ t : TypeId,t ≠ 97 → t ≠ 3 → ∀ p ∈ ([(some k.gC,97),(ve.ownBlock,3)] : TBlks),p.2 ≠ t := fun t h1 h2 p hp => by
  simp only [List.mem_cons,List.not_mem_nil,or_false] at hp
  rcases hp with rfl | rfl
  ·exact fun e => h1 e.symm
  ·exact fun e => h2 e.symm
 have hM := GSt.mv (k := k) (vr := vr) (vst := vst) hm (Mv.refl w vrd) (Mv.refl w vt)
 refine ⟨⟨by rw [qa2 hC];rfl,h.kbc hk hK (hn _ (by decide) (by decide)),?_,h.kord hk hK (hn _ (by decide) (by decide)) hM,h.kot hk hK (hn _ (by decide) (by decide)) hM,h.kor hk hK (hn _ (by decide) (by decide)),h.kos hk hK (hn _ (by decide) (by decide)),h.klot hk hK,h.l1,h.l2,fun b hb => Nat.lt_of_lt_of_le (h.lx b hb) hk.size⟩,hk⟩
 have l2 := h.l2
 exact ((Keep.refl [some k.gC] w1).setIn k.gC 0 ve' (.inl (by simp))).own (S := fun _ => False) (dInt.stable _ _) hO (fun b hb hm => by have := (Own.lt hO b hb).1;simp at hm;omega) (fun _ h => h.elim)
theorem GSt.rounded (h : GSt k w ve vrd vt vr vst rv inn el ee rounds ties) (hO : Own (k.gc + 1) 58 6 (dRnd (k.R w1 ve vrd' vt vr vst)) w1 vrd' rounds') (hg : w.grownBy w1 vrd.ownBlock) (hm : Mv w vrd vrd') :
  GSt k (w1.setCell ⟨k.gC,1,none⟩ vrd') ve vrd' vt vr vst rv inn el ee rounds' ties ∧ Keep [some k.gC,vrd.ownBlock] w (w1.setCell ⟨k.gC,1,none⟩ vrd') := by
 have hk1 : Keep ([(vrd.ownBlock,58)].map Prod.fst) w w1 := Keep.of_grown hg
 have hK1 : ∀ p ∈ ([(vrd.ownBlock,58)] : TBlks),p ∈ k.L ve vrd vt vr vst := fun p hp => by rw [List.mem_singleton.1 hp];simp [GCn.L]
 have hC := h.kbC hk1 hK1 (fun p hp => by rw [List.mem_singleton.1 hp];dsimp only;decide)
 have hk : Keep ([(some k.gC,97),(vrd.ownBlock,58)].map Prod.fst) w (w1.setCell ⟨k.gC,1,none⟩ vrd') := Keep.set hk1 _ _ _
 have hK : ∀ p ∈ ([(some k.gC,97),(vrd.ownBlock,58)] : TBlks),p ∈ k.L ve vrd vt vr vst := fun p hp => by
  simp only [List.mem_cons,List.not_mem_nil,or_false] at hp
  rcases hp with rfl | rfl <;> simp [GCn.L]
 have hn : ∀ t : TypeId,t ≠ 97 → t ≠ 58 → ∀ p ∈ ([(some k.gC,97),(vrd.ownBlock,58)] : TBlks),p.2 ≠ t := fun t h1 h2 p hp => by
  simp only [List.mem_cons,List.not_mem_nil,or_false] at hp
  rcases hp with rfl | rfl
  ·exact fun e => h1 e.symm
  ·exact fun e => h2 e.symm
 have hM := GSt.mv (k := k) (vr := vr) (vst := vst) (Mv.refl w ve) hm (Mv.refl w vt)
 refine ⟨⟨by rw [qa2 hC];rfl,h.kbc hk hK (hn _ (by decide) (by decide)),h.koe hk hK (hn _ (by decide) (by decide)),?_,h.kot hk hK (hn _ (by decide) (by decide)) hM,h.kor hk hK (hn _ (by decide) (by decide)),h.kos hk hK (hn _ (by decide) (by decide)),h.klot hk hK,h.l1,h.l2,fun b hb => Nat.lt_of_lt_of_le (h.lx b hb) hk.size⟩,hk⟩
 have l2 := h.l2
 have hk2 : Keep [some k.gC] w1 (w1.setCell ⟨k.gC,1,none⟩ vrd') := (Keep.refl [some k.gC] w1).setIn k.gC 1 vrd' (.inl (by simp))
 exact Own.dmono (fun _ _ hd => dRnd.mono (Rk.up hk2.size fun _ _ h => h) hd) (hk2.own (dRnd.stable _) hO (fun b hb hm => by have := (Own.lt hO b hb).1;simp at hm;omega) (fun b hb hm => by have := hb.1;simp at hm;omega))
theorem GSt.tell (h : GSt k w ve vrd vt vr vst rv inn el ee rounds ties) (hr : TellR (k.gc + 1) k.gC (k.R w ve vrd vt vr vst) ve vrd vt k.vl ties' w w1) : ∃ vt',GSt k w1 ve vrd vt' vr vst rv inn el ee rounds ties' ∧ Keep [some k.gC,vt.ownBlock] w w1 ∧ Mv w vt vt' := by
 obtain ⟨vt',k1,k2,k3,k4⟩ := hr.keep
 have hk : Keep ([(some k.gC,97),(vt.ownBlock,115)].map Prod.fst) w w1 := k3
 have hK : ∀ p ∈ ([(some k.gC,97),(vt.ownBlock,115)] : TBlks),p ∈ k.L ve vrd vt vr vst := fun p hp => by
  simp only [List.mem_cons,List.not_mem_nil,or_false] at hp
  rcases hp with rfl | rfl <;> simp [GCn.L]
 have hn : ∀ t : TypeId,t ≠ 97 → t ≠ 115 → ∀ p ∈ ([(some k.gC,97),(vt.ownBlock,115)] : TBlks),p.2 ≠ t := fun t h1 h2 p hp => by
  simp only [List.mem_cons,List.not_mem_nil,or_false] at hp
  rcases hp with rfl | rfl
  ·exact fun e => h1 e.symm
  ·exact fun e => h2 e.symm
 have hM := GSt.mv (k := k) (vr := vr) (vst := vst) (Mv.refl w ve) (Mv.refl w vrd) k4
 have hbg := h.big
 refine ⟨vt',⟨k1,h.kbc hk hK (hn _ (by decide) (by decide)),h.koe hk hK (hn _ (by decide) (by decide)),h.kord hk hK (hn _ (by decide) (by decide)) hM,?_,h.kor hk hK (hn _ (by decide) (by decide)),h.kos hk hK (hn _ (by decide) (by decide)),h.klot hk hK,h.l1,h.l2,fun b hb => Nat.lt_of_lt_of_le (h.lx b hb) hk.size⟩,k3,k4⟩
 refine Own.dmono (fun _ _ hd => dTie.mono (fun b hb => ?_) hd) k2
 rcases hb with hb | ⟨h1,h2,h3⟩
 ·exact GSt.kr hk hM b hb
 ·refine ⟨by omega, h2, fun hm => ?_⟩
  simp only [GCn.M,List.mem_append,List.mem_cons,List.not_mem_nil,or_false,Option.some.injEq] at hm
  rcases hm with e | e | e | e | e | e | e | e
  ·have := h.lx b e;omega
  ·have := h.l2;omega
  ·omega
  ·have := (Own.lt h.oe b e.symm).2;omega
  ·have := (Own.lt h.ord b e.symm).2;omega
  ·exact h3 e
  ·have := (Own.lt h.or b e.symm).2;omega
  ·have := (Own.lt h.os b e.symm).2;omega
theorem GSt.passed (h : GSt k w ve vrd vt vr vst rv inn el ee rounds ties) (hO : Own (k.gc + 1) 93 3 (dGRow fun b => b < k.lo) w1 vr rv') (hk0 : Keep [vr.ownBlock] w w1) : GSt k w1 ve vrd vt vr vst rv' inn el ee rounds ties := by
 have hk : Keep ([(vr.ownBlock,93)].map Prod.fst) w w1 := hk0
 have hK : ∀ p ∈ ([(vr.ownBlock,93)] : TBlks),p ∈ k.L ve vrd vt vr vst := fun p hp => by rw [List.mem_singleton.1 hp];simp [GCn.L]
 have hn : ∀ t : TypeId,t ≠ 93 → ∀ p ∈ ([(vr.ownBlock,93)] : TBlks),p.2 ≠ t := fun t ht p hp => by rw [List.mem_singleton.1 hp];exact fun e => ht e.symm
 have hM := GSt.mv (k := k) (vr := vr) (vst := vst) (Mv.refl w ve) (Mv.refl w vrd) (Mv.refl w vt)
 exact ⟨h.kbC hk hK (hn _ (by decide)),h.kbc hk hK (hn _ (by decide)),h.koe hk hK (hn _ (by decide)),h.kord hk hK (hn _ (by decide)) hM,h.kot hk hK (hn _ (by decide)) hM,hO,h.kos hk hK (hn _ (by decide)),h.klot hk hK,h.l1,h.l2,fun b hb => Nat.lt_of_lt_of_le (h.lx b hb) hk.size⟩
theorem GSt.aside (h : GSt k w ve vrd vt vr vst rv inn el ee rounds ties) {K : Blks} (hk : Keep K w w1) (hK : ∀ b,some b ∈ K → some b ∈ k.x ∧ some b ∉ k.M ve vrd vt vr vst ∧ k.gC ≤ b) : GSt k w1 ve vrd vt vr vst rv inn el ee rounds ties := by
 have l1 := h.l1
 have no : ∀ b,some b ∈ k.M ve vrd vt vr vst → some b ∉ K := fun b hb hm => (hK b hm).2.1 hb
 have hr : ∀ b,k.R w ve vrd vt vr vst b → some b ∉ K := fun b hb hm => hb.2.2 (List.mem_append_left _ (hK b hm).1)
 have hup : ∀ b,k.R w ve vrd vt vr vst b → k.R w1 ve vrd vt vr vst b := Rk.up hk.size fun _ _ h => h
 refine ⟨hk.box h.bC (no _ (by simp [GCn.M])),hk.box h.bc (no _ (by simp [GCn.M])),hk.own (S := fun _ => False) (dInt.stable _ _) h.oe (fun b hb => no b (by simp [GCn.M,hb])) (fun _ h => h.elim),
  Own.dmono (fun _ _ hd => dRnd.mono hup hd) (hk.own (dRnd.stable _) h.ord (fun b hb => no b (by simp [GCn.M,hb])) hr),Own.dmono (fun _ _ hd => dTie.mono hup hd) (hk.own (dTie.stable _) h.ot (fun b hb => no b (by simp [GCn.M,hb])) hr),
  hk.own (dGRow.stable _) h.or (fun b hb => no b (by simp [GCn.M,hb])) (fun b hb hm => by have := (hK b hm).2.2;omega),hk.own (S := fun _ => False) (dVal.stable _) h.os (fun b hb => no b (by simp [GCn.M,hb])) (fun _ h => h.elim),hk.rints h.lot (fun b hb hm => by have := (hK b hm).2.2;omega),h.l1,h.l2,fun b hb => Nat.lt_of_lt_of_le (h.lx b hb) hk.size⟩
theorem GSt.asideY {X Y K : Blks} (h : GSt { k with x := X } w ve vrd vt vr vst rv inn el ee rounds ties) (hk : Keep K w w1) (hK : ∀ b,some b ∈ K → some b ∈ X ∧ some b ∉ k.M ve vrd vt vr vst ∧ k.gC ≤ b) (hY : ∀ b,some b ∈ Y → b < w1.heap.size ∧ (some b ∈ X ∨ w.heap.size ≤ b)) : GSt { k with x := Y } w1 ve vrd vt vr vst rv inn el ee rounds ties := by
 have h1 := h.aside hk hK
 have no : ∀ b,some b ∈ k.M ve vrd vt vr vst → some b ∉ K := fun b hb hm => (hK b hm).2.1 hb
 have hr : ∀ b,GCn.R { k with x := X } w ve vrd vt vr vst b → some b ∉ K := fun b hb hm => hb.2.2 (List.mem_append_left _ (hK b hm).1)
 have hup : ∀ b,GCn.R { k with x := X } w ve vrd vt vr vst b → GCn.R { k with x := Y } w1 ve vrd vt vr vst b := fun b hb => ⟨hb.1,Nat.lt_of_lt_of_le hb.2.1 hk.size,fun hm => (List.mem_append.1 hm).elim (fun e => by
  rcases (hY b e).2 with h1 | h1
  ·exact hb.2.2 (List.mem_append_left _ h1)
  ·have := hb.2.1;omega) (fun hm => hb.2.2 (List.mem_append_right _ hm))⟩
 exact ⟨h1.bC,h1.bc,h1.oe,Own.dmono (fun _ _ hd => dRnd.mono hup hd) (hk.own (dRnd.stable _) h.ord (fun b hb => no b (by simp [GCn.M,hb])) hr),Own.dmono (fun _ _ hd => dTie.mono hup hd) (hk.own (dTie.stable _) h.ot (fun b hb => no b (by simp [GCn.M,hb])) hr),h1.or,h1.os,h1.lot,h1.l1,h1.l2,fun b e => (hY b e).1⟩
end
end

section
open Go Go.RowKit Go.Shelf Limb

section
variable {P : Program} (w : World)
theorem wp_appF1 {α : Type} {z : Value} {size bytes : Nat} {o : Oper} {a : Act} {K : Act → World → Prop} {Q : Exit → Act → World → Prop} {e t : TypeId} (hinfo : (P.info? e).map (fun i => (i.zero,i.size,i.bytes)) = some (some z,size,bytes))
  {s x : Operand} (ho : o.op = .call { callee := .builtin .append,args := #[s,x],argTypes := #[t,t] }) (ht : P.underlying t = some (.slice e))
  (hzs : z.cells.size = size ∧ 0 < size ∧ 0 < bytes ∧ bytes ≤ 1000) {dec : World → List Value → α → Prop} {S : Nat → Prop} (h1 : OneC dec) (hst : Stable S dec) (base : Nat)
  {v : Value} {xs : List α} (hown : Own base e size dec w v xs) (hSv : ∀ b,S b → some b ≠ v.ownBlock) (hs : a.eval s = v) {g : Nat} {cs : List Value} {y : α} (hg : w.heap[g]? = some (.cells cs.toArray e (0,0))) (hl : cs.length = size) (hy : dec w cs y)
  (hx : a.eval x = .slice (some ⟨g,0,none⟩) 1 1) (h63 : xs.length ≤ 1000000) (hbase : base ≤ w.heap.size)
  (h : ∀ a' n' c' w',Own base e size dec w' (.slice a' n' c') (xs ++ [y]) → w.grownBy w' v.ownBlock → Mv w v (.slice a' n' c') → K (a.put o.dst (.slice a' n' c')) w') : o.wp P a w K Q := by
 refine wp_app w hinfo ho ht ⟨hzs.1,hzs.2.1,hzs.2.2.1⟩ h1 hst base hown hs (RSl.built (lo := 0) (Nat.zero_le _) hg hl hy) hx ?_ hbase ?_
 ·have h1 : (xs.length + 1) * bytes ≤ 1000001 * 1000 := Nat.mul_le_mul (by omega) hzs.2.2.2
  simp only [List.length_cons,List.length_nil,Nat.zero_add]
  omega
 ·intro a' c' w' hgr hat hO
  refine h a' _ c' w' (hO (.of_grown hgr hSv)) hgr ?_
  rcases hat with e | e
  ·exact .inl e
  ·exact .inr ⟨_,e,Nat.le_refl _⟩
end
theorem Mv.from {w0 w : World} {v v' : Value} (h : Mv w v v') (hs : w0.heap.size ≤ w.heap.size) : Mv w0 v v' := by
 rcases h with h | ⟨b,h,hb⟩
 ·exact .inl h
 ·exact .inr ⟨b,h,Nat.le_trans hs hb⟩
end
end Go.Proofs.YthcbkhfmdginiaaGreat
