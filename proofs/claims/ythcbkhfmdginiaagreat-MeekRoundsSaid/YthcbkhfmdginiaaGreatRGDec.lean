/- Texts of one claim,put together: RunP,RouP,DecP,RatAr,BilP,RtB,AlkG,LastR. -/
import Derived.Test.YthcbkhfmdginiaaGreatRGGreM
import Derived.Test.YthcbkhfmdginiaaGreatRGGreA
import Derived.Test.YthcbkhfmdginiaaGreatRGRat2
import Derived.Test.YthcbkhfmdginiaaGreatRGRat
import Derived.Test.YthcbkhfmdginiaaGreatRGR18
import Derived.Test.YthcbkhfmdginiaaGreatRGSam
import Derived.Test.YthcbkhfmdginiaaGreatRGWakG
import Derived.Test.YthcbkhfmdginiaaGreatRGRen
import Derived.Test.YthcbkhfmdginiaaGreatRGRul
import Derived.StillTailTactics

namespace Go.Proofs.YthcbkhfmdginiaaGreat
section

section
variable {σ : Type} {R : Rule σ} {seats C : Nat} {lot : List Int} {s0 : σ}
theorem step_snoc (s : Sq σ) : ∃ r,(step R seats lot s).rounds = s.rounds ++ [r] := by
 unfold step
 split
 ·exact ⟨_,rfl⟩
 ·split
  ·exact ⟨_,rfl⟩
  ·exact ⟨_,rfl⟩
theorem run_next {k : Nat} (h : (run R seats lot s0 C k).el.length < seats) : run R seats lot s0 C (k + 1) = step R seats lot (run R seats lot s0 C k) := by rw [run,if_pos h]
theorem run_early {k j : Nat} (h : (run R seats lot s0 C k).el.length < seats) (hj : j ≤ k) : (run R seats lot s0 C j).el.length < seats := by
 rcases Nat.lt_or_ge (run R seats lot s0 C j).el.length seats with h1 | h1
 ·exact h1
 ·obtain ⟨d, rfl⟩ := Nat.exists_eq_add_of_le hj
  rw [run_stop (by omega) d] at h
  omega
theorem run_grow (k : Nat) : (run R seats lot s0 C (k + 1)).rounds.length ≤ (run R seats lot s0 C k).rounds.length + 1 := by
 rw [run]
 split
 ·obtain ⟨r, hr⟩ := step_snoc (R := R) (seats := seats) (lot := lot) (run R seats lot s0 C k)
  rw [hr];simp
 ·omega
theorem run_short : ∀ k,(run R seats lot s0 C k).rounds.length ≤ k
 | 0 => by simp [run]
 | k + 1 => by have := run_short k;have := run_grow (R := R) (seats := seats) (lot := lot) (s0 := s0) (C := C) k;omega
theorem run_exact : ∀ k,(∀ j,j < k → (run R seats lot s0 C j).el.length < seats) → (run R seats lot s0 C k).rounds.length = k
 | 0,_ => rfl
 | k + 1,h => by
  have ih := run_exact k fun j hj => h j (by omega)
  rw [run_next (h k (by omega))]
  obtain ⟨r,hr⟩ := step_snoc (R := R) (seats := seats) (lot := lot) (run R seats lot s0 C k)
  rw [hr];simp [ih]
theorem run_pre (k : Nat) : ∀ d,∃ l,(run R seats lot s0 C (k + d)).rounds = (run R seats lot s0 C k).rounds ++ l
 | 0 => ⟨[],by simp⟩
 | d + 1 => by
  obtain ⟨l,hl⟩ := run_pre k d
  rw [← Nat.add_assoc,run]
  split
  ·obtain ⟨r, hr⟩ := step_snoc (R := R) (seats := seats) (lot := lot) (run R seats lot s0 C (k + d))
   rw [hr,hl]
   exact ⟨l ++ [r],by rw [List.append_assoc]⟩
  ·exact ⟨l,hl⟩
theorem run_round (hl : LotOf lot C) (hs : seats ≤ C) {i : Nat} (hi : i < (run R seats lot s0 C C).rounds.length) :
  (run R seats lot s0 C i).el.length < seats ∧ (run R seats lot s0 C i).rounds = (run R seats lot s0 C C).rounds.take i ∧ (run R seats lot s0 C (i + 1)).rounds = (run R seats lot s0 C i).rounds ++ [(run R seats lot s0 C C).rounds[i]] := by
 have hiC : i < C := Nat.lt_of_lt_of_le hi (run_short C)
 have h1 : (run R seats lot s0 C i).el.length < seats := by
  rcases Nat.lt_or_ge (run R seats lot s0 C i).el.length seats with h | h
  ·exact h
  ·rw [← run_end hl hs (by omega : ¬ (run R seats lot s0 C i).el.length < seats)] at hi
   have := run_short (R := R) (seats := seats) (lot := lot) (s0 := s0) (C := C) i
   omega
 have h2 := run_exact i fun j hj => run_early h1 (by omega : j ≤ i)
 obtain ⟨r,hr⟩ := step_snoc (R := R) (seats := seats) (lot := lot) (run R seats lot s0 C i)
 rw [← run_next h1] at hr
 obtain ⟨l,hl2⟩ := run_pre (R := R) (seats := seats) (lot := lot) (s0 := s0) (C := C) (i + 1) (C - (i + 1))
 rw [show i + 1 + (C - (i + 1)) = C by omega] at hl2
 refine ⟨h1,?_,?_⟩
 ·rw [hl2,hr,List.append_assoc,List.take_left' h2]
 ·rw [hr]
  congr 2
  simp only [hl2,hr]
  rw [List.getElem_append_left (by rw [List.length_append,h2];simp),List.getElem_append_right (by omega)]
  simp [h2]
def SqO (s : Sq σ) : Prop := ∀ x ∈ s.rounds.flatMap Rnd.out,x ∉ s.inn ∧ x ∉ s.el ∧ 0 ≤ x ∧ x < (C : Int)
theorem SqO.step {s : Sq σ} (hl : LotOf lot C) (h : SqI C seats s) (o : SqO (C := C) s) (h2 : s.el.length < seats) : SqO (C := C) (step R seats lot s) := by
 have hne := h.ne h2
 have hn := qaz h.asc
 unfold Go.Proofs.YthcbkhfmdginiaaGreat.step
 split
 ·obtain ⟨f1, f2, f3, f4, f5, f6⟩ := qb3 (had := s.had R) hl h.rng hn s.inn.length (Nat.le_refl _)
  intro x hx
  simp only [List.flatMap_append,List.flatMap_cons,List.flatMap_nil,List.append_nil,Sq.rnd] at hx
  obtain ⟨k1,k2,k3⟩ := o x hx
  refine ⟨by simp,fun hm => ?_,k3⟩
  rcases List.mem_append.1 hm with hm | hm
  ·exact k2 hm
  ·exact k1 (f3 x hm)
 ·split
  ·obtain ⟨k1, k2⟩ := h.pick hl (f := gI (s.had R)) hne
   have k2' : firstL lot (s.best R) ∈ s.inn := k2
   generalize firstL lot (s.best R) = y at *
   intro x hx
   simp only [List.flatMap_append,List.flatMap_cons,List.flatMap_nil,List.append_nil,Sq.rnd] at hx
   obtain ⟨o1,o2,o3⟩ := o x hx
   refine ⟨fun hm => o1 (List.mem_filter.1 hm).1,fun hm => ?_,o3⟩
   rcases List.mem_append.1 hm with hm | hm
   ·exact o2 hm
   ·exact o1 (by rw [List.mem_singleton.1 hm];exact k2')
  ·obtain ⟨k1, k2⟩ := h.pick (qba hl) (f := fun y => - gI (s.had R) y) hne
   have k2' : firstL lot.reverse (s.least R) ∈ s.inn := k2
   generalize firstL lot.reverse (s.least R) = y at *
   intro x hx
   simp only [List.flatMap_append,List.flatMap_cons,List.flatMap_nil,List.append_nil,Sq.rnd,List.mem_append,List.mem_singleton] at hx
   rcases hx with hx | rfl
   ·obtain ⟨o1, o2, o3⟩ := o x hx
    exact ⟨fun hm => o1 (List.mem_filter.1 hm).1,o2,o3⟩
   ·exact ⟨fun hm => by have := (List.mem_filter.1 hm).2;simp at this,h.apart _ k2',h.rng _ k2'⟩
end
end

section

theorem fill_get {had lot left : List Int} : ∀ {n k : Nat},k < n → (fillS had lot left n).elected[k]? = some (firstL lot (bestL (gI had) (fillS had lot left k).left))
 | 0,_,h => absurd h (Nat.not_lt_zero _)
 | n + 1, k, h => by
  have hlen : ∀ n,(fillS had lot left n).elected.length = n := fun n => by
   induction n with
   | zero => rfl
   | succ n ih => simp only [fillS,List.length_append,ih];rfl
  simp only [fillS]
  by_cases hk : k < n
  ·rw [List.getElem?_append_left (by rw [hlen]; exact hk)]
   exact fill_get hk
  ·obtain rfl : k = n := by omega
   rw [List.getElem?_append_right (by rw [hlen];exact Nat.le_refl _),hlen,Nat.sub_self]
   rfl
theorem fill_len (had lot left : List Int) (n : Nat) : (fillS had lot left n).elected.length = n := by
 induction n with
 | zero => rfl
 | succ n ih => simp only [fillS,List.length_append,ih];rfl
structure StepD {σ : Type} (R : Rule σ) (seats : Nat) (lot : List Int) (s s' : Sq σ) (r : Rnd) : Prop where
 had : r.had = (s.had R).map bill
 lost : r.lost = bill (s.lost R)
 all : s.inn.length + s.el.length ≤ seats → r.elected.length = s.inn.length
 one : ¬ s.inn.length + s.el.length ≤ seats → r.elected.length + r.out.length = 1
 len : r.elected.length ≤ s.inn.length
 els : r.elected = (fillS (s.had R) lot s.inn r.elected.length).elected
 reach : ¬ s.inn.length + s.el.length ≤ seats → 0 < r.elected.length → s.reach R = true
 el : s'.el = s.el ++ r.elected
 none : r.out = [] → s'.inn = (fillS (s.had R) lot s.inn r.elected.length).left ∧ s'.ties = s.ties ++ (fillS (s.had R) lot s.inn r.elected.length).ties
 some : r.out ≠ [] → r.elected = [] ∧ r.out = [firstL lot.reverse (s.least R)] ∧ s.reach R = false ∧ s'.inn = s.inn.filter (fun y => !(y == firstL lot.reverse (s.least R))) ∧ s'.ties = s.ties ++ tieL (s.least R) (firstL lot.reverse (s.least R))
section
variable {σ : Type} {R : Rule σ} {seats C : Nat} {lot : List Int} {s : Sq σ}
theorem step_d (hl : LotOf lot C) (h : SqI C seats s) (h2 : s.el.length < seats) : ∃ r,(step R seats lot s).rounds = s.rounds ++ [r] ∧ StepD R seats lot s (step R seats lot s) r := by
 have hne := h.ne h2
 have hpos : 0 < s.inn.length := List.length_pos_iff.2 hne
 have hfl := fill_len (s.had R) lot s.inn
 unfold step
 split
 ·rename_i hf
  have e : (s.fill R lot).elected.length = s.inn.length := hfl _
  exact ⟨_,rfl,⟨rfl,rfl,fun _ => e,fun hn => absurd hf hn,Nat.le_of_eq e,by simp only [Sq.rnd];rw [e];rfl,fun hn => absurd hf hn,rfl,
   fun _ => ⟨by simp only [Sq.rnd];rw [e];exact (fill_all hl h.rng (qaz h.asc)).symm,by simp only [Sq.rnd];rw [e];rfl⟩,fun hn => absurd rfl hn⟩⟩
 ·rename_i hf
  split
  ·rename_i hr
   exact ⟨_,rfl,⟨rfl,rfl,fun hn => absurd hn hf,fun _ => rfl,hpos,rfl,fun _ _ => hr,rfl,fun _ => ⟨rfl,rfl⟩,fun hn => absurd rfl hn⟩⟩
  ·rename_i hr
   exact ⟨_,rfl,⟨rfl,rfl,fun hn => absurd hn hf,fun _ => rfl,Nat.zero_le _,rfl,fun _ hp => absurd hp (Nat.lt_irrefl _),by simp [Sq.rnd],fun hn => by simp [Sq.rnd] at hn,fun _ => ⟨rfl,rfl,by simpa using hr,rfl,rfl⟩⟩⟩
end
end

section

def alkL (C : Nat) (H l : List Int) (x : Int) : List Int := (rngI C).filter fun y => l.contains y && decide (gI H y = gI H x)
theorem alk_best {C : Nat} {H l : List Int} {x : Int} (ha : l.Pairwise (fun a b => a < b)) (hr : ∀ y ∈ l,0 ≤ y ∧ y < (C : Int)) (hx : x ∈ bestL (gI H) l) : alkL C H l x = bestL (gI H) l := by
 obtain ⟨h1,h2⟩ := qak.1 hx
 rw [bestL_eq (M := gI H x) ⟨x,h1,rfl⟩ h2]
 conv => rhs;rw [← filter_all ha hr,List.filter_filter]
 rw [alkL]
 apply List.filter_congr
 intro y _
 rw [Bool.and_comm]
theorem alk_least {C : Nat} {H l : List Int} {x : Int} (ha : l.Pairwise (fun a b => a < b)) (hr : ∀ y ∈ l,0 ≤ y ∧ y < (C : Int)) (hx : x ∈ bestL (fun y => - gI H y) l) : alkL C H l x = bestL (fun y => - gI H y) l := by
 obtain ⟨h1,h2⟩ := qak.1 hx
 rw [bestL_eq (f := fun y => - gI H y) (M := - gI H x) ⟨x,h1,rfl⟩ h2]
 conv => rhs;rw [← filter_all ha hr,List.filter_filter]
 rw [alkL]
 apply List.filter_congr
 intro y _
 rw [Bool.and_comm]
 congr 1
 exact decide_eq_decide.2 ⟨fun h => by omega,fun h => by omega⟩
structure FillA (C : Nat) (H lot inn : List Int) (j : Nat) (x : Int) : Prop where
 mem : x ∈ (fillS H lot inn j).left
 rng : 0 ≤ x ∧ x < (C : Int)
 alk : alkL C H (fillS H lot inn j).left x = bestL (gI H) (fillS H lot inn j).left
 top : ∀ y ∈ (fillS H lot inn j).left,(0 ≤ y ∧ y < (C : Int)) ∧ gI H y ≤ gI H x
 left : (fillS H lot inn j).left.length ≤ inn.length
 ties : (fillS H lot inn j).ties.length ≤ j
theorem fill_at {C : Nat} {H lot inn : List Int} (hl : LotOf lot C) (hr : ∀ x ∈ inn,0 ≤ x ∧ x < (C : Int)) (ha : inn.Pairwise (fun a b => a < b)) {j : Nat} (hj : j < inn.length) :
  FillA C H lot inn j (firstL lot (bestL (gI H) (fillS H lot inn j).left)) := by
 have hn := qaz ha
 obtain ⟨f1,f2,f3,f4,f5,f6⟩ := qb3 (had := H) hl hr hn j (by omega)
 have hne : (fillS H lot inn j).left ≠ [] := fun h0 => by rw [h0,List.length_nil] at f5;omega
 have hr2 : ∀ x ∈ (fillS H lot inn j).left,0 ≤ x ∧ x < (C : Int) := fun x hx => by
  rw [f1] at hx
  exact hr x (List.mem_filter.1 hx).1
 have ha2 : (fillS H lot inn j).left.Pairwise (fun a b => a < b) := by rw [f1];exact ha.filter _
 obtain ⟨x0,hx0⟩ := List.exists_mem_of_ne_nil _ (bestL_ne (f := gI H) hne)
 have k1 := (qaw (lot := lot) ⟨x0,(hl.all _).2 (hr2 _ (qak.1 hx0).1),hx0⟩).1
 obtain ⟨k2,k3⟩ := qak.1 k1
 exact ⟨k2,hr2 _ k2,alk_best ha2 hr2 k1,fun y hy => ⟨hr2 y hy,k3 y hy⟩,by omega,f6⟩
theorem out_at {C : Nat} {H lot inn : List Int} (hl : LotOf lot C) (hr : ∀ x ∈ inn,0 ≤ x ∧ x < (C : Int)) (ha : inn.Pairwise (fun a b => a < b)) (hne : inn ≠ []) :
  firstL lot.reverse (bestL (fun y => - gI H y) inn) ∈ inn ∧ alkL C H inn (firstL lot.reverse (bestL (fun y => - gI H y) inn)) = bestL (fun y => - gI H y) inn ∧ ∀ y ∈ inn,gI H (firstL lot.reverse (bestL (fun y => - gI H y) inn)) ≤ gI H y := by
 obtain ⟨x0,hx0⟩ := List.exists_mem_of_ne_nil _ (bestL_ne (f := fun y => - gI H y) hne)
 have k1 := (qaw (lot := lot.reverse) ⟨x0,((qba hl).all _).2 (hr _ (qak.1 hx0).1),hx0⟩).1
 obtain ⟨k2,k3⟩ := qak.1 k1
 exact ⟨k2,alk_least ha hr k1,fun y hy => by have := k3 y hy;omega⟩
structure DecR (C : Nat) (H lot inn : List Int) (T : List Tie) (ll : Nat) (Q : Int) (r : Rnd) (inn2 : List Int) (T2 : List Tie) (ll2 : Nat) : Prop where
 had : r.had = H.map bill
 hlen : H.length = C
 rng : ∀ x ∈ inn,0 ≤ x ∧ x < (C : Int)
 asc : inn.Pairwise (fun a b => a < b)
 ne : 0 < inn.length
 all : inn.length ≤ ll → r.elected.length = inn.length
 one : ¬ inn.length ≤ ll → r.elected.length + r.out.length = 1
 len : r.elected.length ≤ inn.length
 lel : ll2 + r.elected.length = ll
 outs : r.out.length ≤ 1
 els : ∀ j (h : j < r.elected.length),r.elected[j] = firstL lot (bestL (gI H) (fillS H lot inn j).left)
 reach : ¬ inn.length ≤ ll → ∀ j,j < r.elected.length → Q ≤ gI H (firstL lot (bestL (gI H) (fillS H lot inn j).left))
 none : r.out.length = 0 → inn2 = (fillS H lot inn r.elected.length).left ∧ T2 = T ++ (fillS H lot inn r.elected.length).ties
 some : ∀ h : 0 < r.out.length,r.elected.length = 0 ∧ r.out[0] = firstL lot.reverse (bestL (fun y => - gI H y) inn) ∧ (∀ y ∈ inn,gI H y < Q) ∧ inn2 = inn.filter (fun y => !(y == r.out[0])) ∧ T2 = T ++ tieL (bestL (fun y => - gI H y) inn) r.out[0]
section
variable {σ : Type} {R : Rule σ} {seats C : Nat} {lot : List Int} {s s' : Sq σ} {r : Rnd} {Q : Int}
theorem DecR.of (h : SqI C seats s) (h2 : s.el.length < seats) (hS : StepD R seats lot s s' r) (hlen : (s.had R).length = C) (hQ : s.reach R = true → Q ≤ gI (s.had R) (firstL lot (s.best R))) (hQ2 : s.reach R = false → ∀ y ∈ s.inn,gI (s.had R) y < Q) (h3 : s'.el.length ≤ seats) :
  DecR C (s.had R) lot s.inn s.ties (seats - s.el.length) Q r s'.inn s'.ties (seats - s'.el.length) := by
 have hne := h.ne h2
 have hel := hS.el
 have hl : s'.el.length = s.el.length + r.elected.length := by rw [hel,List.length_append]
 have hout : r.out ≠ [] → r.out.length = 1 := fun hn => by rw [(hS.some hn).2.1];rfl
 have hout1 : r.out.length ≤ 1 := by
  by_cases hn : r.out = []
  ·rw [hn];exact Nat.zero_le _
  ·rw [hout hn];exact Nat.le_refl _
 have hels : ∀ j (h : j < r.elected.length),r.elected[j] = firstL lot (bestL (gI (s.had R)) (fillS (s.had R) lot s.inn j).left) := fun j hj => by
  have e := hS.els
  have g := fill_get (had := s.had R) (lot := lot) (left := s.inn) hj
  rw [← e,List.getElem?_eq_getElem hj] at g
  exact Option.some.inj g
 refine ⟨hS.had,hlen,h.rng,h.asc,List.length_pos_iff.2 hne,fun ha => hS.all (by omega),fun ha => hS.one (by omega),hS.len,by omega,hout1,hels,fun ha j hj => ?_,fun h0 => hS.none (List.eq_nil_of_length_eq_zero h0),fun h0 => ?_⟩
 ·have h1 := hS.one (by omega)
  have hr := hS.reach (by omega) (by omega)
  obtain rfl : j = 0 := by omega
  exact hQ hr
 ·have hn : r.out ≠ [] := fun e => by rw [e] at h0; exact absurd h0 (Nat.lt_irrefl _)
  obtain ⟨o1,o2,o3,o4,o5⟩ := hS.some hn
  have e0 : r.out[0] = firstL lot.reverse (s.least R) := by simp only [o2];rfl
  refine ⟨by rw [o1];rfl,e0,hQ2 o3,by rw [e0];exact o4,by rw [e0];exact o5⟩
theorem run_rounds {s0 : σ} (hl : LotOf lot C) (hs : seats ≤ C) : run R seats lot s0 C (run R seats lot s0 C C).rounds.length = run R seats lot s0 C C := by
 have hn := run_short (R := R) (seats := seats) (lot := lot) (s0 := s0) (C := C) C
 obtain ⟨n,hnn⟩ : ∃ n,(run R seats lot s0 C C).rounds.length = n := ⟨_,rfl⟩
 rw [hnn] at hn ⊢
 by_cases h : (run R seats lot s0 C n).el.length < seats
 ·exfalso
  have hnC : n < C := by
   rcases Nat.lt_or_ge n C with h1 | h1
   ·exact h1
   ·obtain rfl : n = C := by omega
    have := run_over (R := R) (s0 := s0) hl hs
    omega
  have h2 := run_exact (R := R) (seats := seats) (lot := lot) (s0 := s0) (C := C) (n + 1) fun j hj => run_early h (by omega)
  obtain ⟨l,hl2⟩ := run_pre (R := R) (seats := seats) (lot := lot) (s0 := s0) (C := C) (n + 1) (C - (n + 1))
  rw [show n + 1 + (C - (n + 1)) = C by omega] at hl2
  have := congrArg List.length hl2
  rw [List.length_append,h2] at this
  omega
 ·exact run_end hl hs h
end
end

section
open Go Go.RowKit Go.Shelf Limb

def bn (a : Nat) : Nat := a / Nat.gcd a 1000000000
def bd (a : Nat) : Nat := 1000000000 / Nat.gcd a 1000000000
theorem bill_of (a : Nat) : bill (a : Int) = ⟨false,lim (bn a),lim (bd a)⟩ := bill_nat a
theorem gcd_bill (a : Nat) : 0 < Nat.gcd a 1000000000 := Nat.gcd_pos_of_pos_right _ (by omega)
theorem bn_mul (a : Nat) : bn a * Nat.gcd a 1000000000 = a := Nat.div_mul_cancel (Nat.gcd_dvd_left _ _)
theorem bd_mul (a : Nat) : bd a * Nat.gcd a 1000000000 = 1000000000 := Nat.div_mul_cancel (Nat.gcd_dvd_right _ _)
theorem bd_pos (a : Nat) : 0 < bd a := Nat.div_pos (Nat.le_of_dvd (by omega) (Nat.gcd_dvd_right a _)) (gcd_bill a)
theorem bn_le (a : Nat) : bn a ≤ a := Nat.div_le_self _ _
theorem bd_le (a : Nat) : bd a ≤ 1000000000 := Nat.div_le_self _ _
theorem bill_cmp (a b : Nat) : cmpN (bn a * bd b) (bn b * bd a) = cmpN a b := by
 have e1 := bn_mul a
 have e2 := bn_mul b
 have e3 := bd_mul a
 have e4 := bd_mul b
 have g1 := gcd_bill a
 have g2 := gcd_bill b
 have key : bn a * bd b * (Nat.gcd a 1000000000 * Nat.gcd b 1000000000) = a * 1000000000 := by
  rw [Nat.mul_mul_mul_comm,e1,e4]
 have key2 : bn b * bd a * (Nat.gcd a 1000000000 * Nat.gcd b 1000000000) = b * 1000000000 := by
  rw [Nat.mul_comm (Nat.gcd a 1000000000),Nat.mul_mul_mul_comm,e2,e3]
 have hp : 0 < Nat.gcd a 1000000000 * Nat.gcd b 1000000000 := Nat.mul_pos g1 g2
 generalize Nat.gcd a 1000000000 * Nat.gcd b 1000000000 = G at *
 generalize bn a * bd b = p at *
 generalize bn b * bd a = q at *
 have hl : ∀ {x y c d : Nat},x * G = c * 1000000000 → y * G = d * 1000000000 → (x < y ↔ c < d) := fun {x y c d} h1 h2 => by
  constructor
  ·intro h
   have := Nat.mul_lt_mul_of_pos_right h hp
   omega
  ·intro h
   rcases Nat.lt_or_ge x y with h3 | h3
   ·exact h3
   ·have := Nat.mul_le_mul_right G h3;omega
 unfold cmpN
 simp only [hl key key2,hl key2 key]
theorem bill_pos {S : Nat → Prop} {w : World} {c : Bool} {d e : Value} {a : Nat} (ha : a ≤ 4000000000000000000) (h : VRt S w (.agg #[.bool c,d,e]) (bill (a : Int))) : c = false ∧ Pos w d e (bn a) (bd a) := by
 rw [bill_of] at h
 obtain ⟨u1,u2,hh,h1,h2⟩ := h
 simp only [Value.agg.injEq,Array.mk.injEq,List.cons.injEq,and_true,Value.bool.injEq] at hh
 obtain ⟨rfl,rfl,rfl⟩ := hh
 have l1 := qb9 (n := bn a) (by have := bn_le a;omega)
 have l2 := qb9 (n := bd a) (by have := bd_le a;omega)
 refine ⟨rfl,NumAt.of h1,NumAt.of h2,?_,by omega,by omega,bd_pos a⟩
 rw [ratChk_ok (by omega) (by omega) (by have := bd_pos a;omega) (g := 1) ?_ (by simp)]
 ·rfl
 ·unfold bn bd
  rw [Nat.gcd_div (Nat.gcd_dvd_left _ _) (Nat.gcd_dvd_right _ _),Nat.div_self (gcd_bill a)]
theorem bill_fit {a b : Nat} (ha : a ≤ 4000000000000000000) (hb : b ≤ 4000000000000000000) : AddFit (bn a) (bd a) (bn b) (bd b) := by
 have a1 := bn_le a;have a2 := bd_le a;have b1 := bn_le b;have b2 := bd_le b
 have m1 : bn a * bd b ≤ 4000000000000000000 * 1000000000 := Nat.mul_le_mul (by omega) (by omega)
 have m2 : bn b * bd a ≤ 4000000000000000000 * 1000000000 := Nat.mul_le_mul (by omega) (by omega)
 have m3 : bd a * bd b ≤ 1000000000 * 1000000000 := Nat.mul_le_mul (by omega) (by omega)
 have h : ∀ n : Nat,n < 2 ^ 128 → (lim n).length ≤ 96 := fun n hn => Nat.le_trans (qah (k := 4) (by simp only [qal,pw_zero];omega)) (by omega)
 exact ⟨h _ (by omega),h _ (by omega),h _ (by omega),h _ (by omega)⟩
theorem r4CmpB (S T : Nat → Prop) (u v : Value) (a b : Nat) (w : World) (hu : VRt S w u (bill a)) (hv : VRt T w v (bill b)) (ha : a ≤ 4000000000000000000) (hb : b ≤ 4000000000000000000) :
  Calls Tryz.prog 49 #[u,v] w fun e w' => e = .returned (.tuple #[.int .i64 (cmpN a b),.int .i64 0]) ∧ Below w.heap.size w w' := by
 have hu0 := hu
 have hv0 := hv
 obtain ⟨u1,u2,rfl,-,-⟩ := hu0
 obtain ⟨v1,v2,rfl,-,-⟩ := hv0
 obtain ⟨e1,p1⟩ := bill_pos ha hu
 obtain ⟨e2,p2⟩ := bill_pos hb hv
 have hf := bill_fit ha hb
 have h := r4Cmp _ _ _ _ _ _ _ _ w p1.num p1.den p2.num p2.den p1.l1 p1.l2 p2.l1 p2.l2 p1.ok p2.ok (by have := p1.pos;omega) (by have := p2.pos;omega) hf.f1 hf.f2
 rw [bill_cmp a b] at h
 rw [e1,e2]
 exact h
end

section
open Go Go.RowKit Go.Shelf Limb

theorem VRt.from {S : Nat → Prop} {w : World} {c d e : Value} {x : Rt} (h : dRt S w [c,d,e] x) : VRt S w (.agg #[c,d,e]) x := by
 obtain ⟨vn,vd,h1,h2,h3⟩ := h
 simp only [List.cons.injEq,and_true] at h1
 obtain ⟨rfl,rfl,rfl⟩ := h1
 exact ⟨_,_,rfl,h2,h3⟩
theorem VRt.away {S : Nat → Prop} {w : World} {b : Bool} {u v : Value} {x : Rt} {g : Nat} {cs : Array Value} {e : TypeId} (h : VRt S w (.agg #[.bool b,u,v]) x) (hg : w.heap[g]? = some (.cells cs e (0,0))) (hne : ∀ (i : Nat) (y : Int),cs[i]? ≠ some (Value.int .u32 y)) : VRt (fun b => b ≠ g) w (.agg #[.bool b,u,v]) x := by
 obtain ⟨u1,u2,hh,h1,h2⟩ := h
 exact ⟨u1,u2,hh,h1.avoid hg hne,h2.avoid hg hne⟩
theorem VRt.any {S : Nat → Prop} {w : World} {v : Value} {x : Rt} (h : VRt S w v x) : VRt Any w v x := by
 obtain ⟨u1,u2,hh,h1,h2⟩ := h
 exact ⟨u1,u2,hh,h1.mono fun _ _ => trivial,h2.mono fun _ _ => trivial⟩
def RBox (w : World) (g : Nat) (x : Rt) : Prop := ∃ b c1 l1 m1 c2 l2 m2,w.heap[g]? = some (.cells #[.bool b,.slice c1 l1 m1,.slice c2 l2 m2] 56 (0,0)) ∧ VRt Any w (.agg #[.bool b,.slice c1 l1 m1,.slice c2 l2 m2]) x
theorem RBox.below {w w' : World} {g : Nat} {x : Rt} (h : RBox w g x) (hb : Below w.heap.size w w') : RBox w' g x := by
 obtain ⟨b,c1,l1,m1,c2,l2,m2,h1,h2⟩ := h
 exact ⟨_,_,_,_,_,_,_,qax hb h1,h2.same (.of_below hb)⟩
theorem RBox.put {w : World} {g : Nat} {x y : Rt} {S : Nat → Prop} {b : Bool} {c1 c2 : Option Addr} {l1 m1 l2 m2 : Nat} (h : RBox w g x) (hv : VRt S w (.agg #[.bool b,.slice c1 l1 m1,.slice c2 l2 m2]) y) :
  RBox (((w.setCell ⟨g,0,none⟩ (.bool b)).setCell ⟨g,1,none⟩ (.slice c1 l1 m1)).setCell ⟨g,2,none⟩ (.slice c2 l2 m2)) g y := by
 obtain ⟨b',c1',l1',m1',c2',l2',m2',hg,-⟩ := h
 refine ⟨_,_,_,_,_,_,_,?_,VRt.any ((hv.away hg (bss_ne _ _ _ (by simp) (by simp))).same ((((Same.refl _ _).setCell (p := ⟨g,0,none⟩) (by simp) _).setCell (p := ⟨g,1,none⟩) (by simp) _).setCell (p := ⟨g,2,none⟩) (by simp) _))⟩
 have := qa2 (o := 2) (qa2 (o := 1) (qa2 (o := 0) hg (.bool b)) (.slice c1 l1 m1)) (.slice c2 l2 m2)
 simpa using this
theorem RBox.type {w : World} {g : Nat} {x : Rt} (h : RBox w g x) : ∃ cs,w.heap[g]? = some (.cells cs 56 (0,0)) := by
 obtain ⟨_,_,_,_,_,_,_,h1,-⟩ := h;exact ⟨_,h1⟩
theorem RBox.apart {w : World} {g base : Nat} {x : Rt} {v : Value} {xs : List Int} (h : RBox w g x) (ho : Own base 3 1 (dInt .i64) w v xs) : v.ownBlock ≠ some g := by
 intro e
 obtain ⟨cur,h1⟩ := own_type ho e
 obtain ⟨cs,h2⟩ := h.type
 rw [h1] at h2
 simp only [Option.some.injEq,Obj.cells.injEq] at h2
 exact absurd h2.2.1 (by decide)
theorem vrt_pq {S : Nat → Prop} {w : World} {a1 a2 : Option Addr} {c1 c2 n : Nat} (h1 : RU S w (.slice a1 (lim (bn n)).length c1) (lim (bn n))) (h2 : RU S w (.slice a2 (lim (bd n)).length c2) (lim (bd n))) : VRt S w (.agg #[.bool false,.slice a1 (lim (bn n)).length c1,.slice a2 (lim (bd n)).length c2]) (bill (n : Int)) := by
 rw [bill_of];exact ⟨_,_,rfl,h1,h2⟩
def NewB (wr : World) (n : Nat) (s1 s2 : Value) (wc : World) : Prop := ∃ g,s1 = .pointer (some ⟨g,0,none⟩) ∧ s2 = .int .i64 0 ∧ RBox wc g (bill (n : Int)) ∧ Below wr.heap.size wr wc ∧ wr.heap.size ≤ g
theorem NewB.late {wr w4 : World} {n : Nat} {a a' : Option Addr} {c c' : Nat} (k1 : RU Any w4 (.slice a (lim (bn n)).length c) (lim (bn n))) (k2 : RU Any w4 (.slice a' (lim (bd n)).length c') (lim (bd n))) (hb : Below wr.heap.size wr w4) :
  NewB wr n (.pointer (some ⟨w4.heap.size,0,none⟩)) (.int .i64 0) ((((w4.alloc (.cells #[.bool false,.slice none 0 0,.slice none 0 0] 56)).setCell ⟨w4.heap.size,0,none⟩ (.bool false)).setCell ⟨w4.heap.size,1,none⟩ (.slice a (lim (bn n)).length c)).setCell ⟨w4.heap.size,2,none⟩ (.slice a' (lim (bd n)).length c')) := by
 have hb2 := qa1 w4 (.cells #[.bool false,.slice none 0 0,.slice none 0 0] 56)
 have hg := qa8 w4 (.cells #[.bool false,.slice none 0 0,.slice none 0 0] 56)
 have hx : RBox (w4.alloc (.cells #[.bool false,.slice none 0 0,.slice none 0 0] 56)) w4.heap.size ⟨false,[],[]⟩ := ⟨_,_,_,_,_,_,_,hg,_,_,rfl,RSl.nil,RSl.nil⟩
 exact ⟨_,rfl,rfl,hx.put (vrt_pq (RU.below k1 hb2) (RU.below k2 hb2)),bt hb (((hb2.setCell (p := ⟨w4.heap.size,0,none⟩) (Nat.le_refl _) _).setCell (p := ⟨w4.heap.size,1,none⟩) (Nat.le_refl _) _).setCell (p := ⟨w4.heap.size,2,none⟩) (Nat.le_refl _) _),hb.size⟩
theorem NewB.laid {wr w4 : World} {n : Nat} {a a' : Option Addr} {c c' : Nat} (k1 : RU Any w4 (.slice a (lim (bn n)).length c) (lim (bn n))) (k2 : RU Any w4 (.slice a' (lim (bd n)).length c') (lim (bd n))) (hb : Below wr.heap.size wr w4) :
  NewB wr n (.pointer (some ⟨w4.heap.size,0,none⟩)) (.int .i64 0) (w4.alloc (.cells #[.bool false,.slice a (lim (bn n)).length c,.slice a' (lim (bd n)).length c'] 56)) := by
 have hb2 := qa1 w4 (.cells #[.bool false,.slice a (lim (bn n)).length c,.slice a' (lim (bd n)).length c'] 56)
 exact ⟨_,rfl,rfl,⟨_,_,_,_,_,_,_,qa8 _ _,vrt_pq (RU.below k1 hb2) (RU.below k2 hb2)⟩,bt hb hb2,hb.size⟩
theorem NewB.stored {wr w4 : World} {n g : Nat} {a a' : Option Addr} {c c' : Nat} (hg : w4.heap[g]? = some (.cells #[.bool false,.slice none 0 0,.slice none 0 0] 56 (0,0))) (k1 : RU Any w4 (.slice a (lim (bn n)).length c) (lim (bn n))) (k2 : RU Any w4 (.slice a' (lim (bd n)).length c') (lim (bd n))) (hb : Below wr.heap.size wr w4) (hgw : wr.heap.size ≤ g) :
  NewB wr n (.pointer (some ⟨g,0,none⟩)) (.int .i64 0) (((w4.setCell ⟨g,0,none⟩ (.bool false)).setCell ⟨g,1,none⟩ (.slice a (lim (bn n)).length c)).setCell ⟨g,2,none⟩ (.slice a' (lim (bd n)).length c')) := by
 have hx : RBox w4 g ⟨false,[],[]⟩ := ⟨_,_,_,_,_,_,_,hg,_,_,rfl,RSl.nil,RSl.nil⟩
 exact ⟨_,rfl,rfl,hx.put (vrt_pq k1 k2),((hb.setCell (p := ⟨g,0,none⟩) hgw _).setCell (p := ⟨g,1,none⟩) hgw _).setCell (p := ⟨g,2,none⟩) hgw _,hgw⟩
structure SumR (X : World) (g : Nat) (xs ys : List Int) (l : Rt) (wr : World) (va vb : Value) : Prop where
 a : Own X.heap.size 3 1 (dInt .i64) wr va xs
 o : Own X.heap.size 3 1 (dInt .i64) wr vb ys
 ap : ApartV va vb
 l : ∃ b c1 l1 m1 c2 l2 m2,wr.heap[g]? = some (.cells #[.bool b,.slice c1 l1 m1,.slice c2 l2 m2] 56 (0,0)) ∧ VRt (fun b => b < X.heap.size) wr (.agg #[.bool b,.slice c1 l1 m1,.slice c2 l2 m2]) l
 b : Below X.heap.size X wr
 g : X.heap.size ≤ g
section
variable {X wr w' : World} {g : Nat} {xs ys : List Int} {l : Rt} {va vb : Value}
theorem SumR.box (h : SumR X g xs ys l wr va vb) : RBox wr g l := by
 obtain ⟨b,c1,l1,m1,c2,l2,m2,h1,h2⟩ := h.l
 exact ⟨_,_,_,_,_,_,_,h1,h2.any⟩
theorem SumR.below (h : SumR X g xs ys l wr va vb) (hb : Below wr.heap.size wr w') : SumR X g xs ys l w' va vb :=
 ⟨Own.below (S := fun _ => False) (dInt.stable _ _) h.a hb, Own.below (S := fun _ => False) (dInt.stable _ _) h.o hb, h.ap, by
  obtain ⟨b,c1,l1,m1,c2,l2,m2,h1,h2⟩ := h.l
  exact ⟨_,_,_,_,_,_,_,qax hb h1,h2.same (.of_below hb)⟩,h.b.trans (hb.mono h.b.size),h.g⟩
theorem own_keep {base : Nat} {v : Value} {xs : List Int} (h : Own base 3 1 (dInt .i64) wr v xs) (hn : v.ownBlock ≠ some g) (u1 u2 u3 : Value) : Own base 3 1 (dInt .i64) (((wr.setCell ⟨g,0,none⟩ u1).setCell ⟨g,1,none⟩ u2).setCell ⟨g,2,none⟩ u3) v xs := by
 have hk : Keep [some g] wr (((wr.setCell ⟨g,0,none⟩ u1).setCell ⟨g,1,none⟩ u2).setCell ⟨g,2,none⟩ u3) := (((Keep.refl [some g] wr).setIn g 0 u1 (.inl (by simp))).setIn g 1 u2 (.inl (by simp))).setIn g 2 u3 (.inl (by simp))
 exact hk.own (S := fun _ => False) (dInt.stable _ _) h (fun b hb hm => by simp at hm;subst hm;exact hn hb) (fun _ h => h.elim)
theorem SumR.put (h : SumR X g xs ys l wr va vb) {y : Rt} {b : Bool} {c1 c2 : Option Addr} {l1 m1 l2 m2 : Nat} (hv : VRt (fun b => b < X.heap.size) wr (.agg #[.bool b,.slice c1 l1 m1,.slice c2 l2 m2]) y) :
  SumR X g xs ys y (((wr.setCell ⟨g,0,none⟩ (.bool b)).setCell ⟨g,1,none⟩ (.slice c1 l1 m1)).setCell ⟨g,2,none⟩ (.slice c2 l2 m2)) va vb := by
 have hbx := h.box
 have hg := h.g
 obtain ⟨b',c1',l1',m1',c2',l2',m2',hh,-⟩ := h.l
 refine ⟨own_keep h.a (hbx.apart h.a) _ _ _,own_keep h.o (hbx.apart h.o) _ _ _,h.ap,⟨_,_,_,_,_,_,_,?_,hv.same ((((Same.refl _ _).setCell (p := ⟨g,0,none⟩) (fun hx => by have : g < X.heap.size := hx;omega) _).setCell (p := ⟨g,1,none⟩) (fun hx => by have : g < X.heap.size := hx;omega) _).setCell (p := ⟨g,2,none⟩) (fun hx => by have : g < X.heap.size := hx;omega) _)⟩,((h.b.setCell (p := ⟨g,0,none⟩) h.g _).setCell (p := ⟨g,1,none⟩) h.g _).setCell (p := ⟨g,2,none⟩) h.g _,h.g⟩
 have := qa2 (o := 2) (qa2 (o := 1) (qa2 (o := 0) hh (.bool b)) (.slice c1 l1 m1)) (.slice c2 l2 m2)
 simpa using this
end
end

section
open Go Go.RowKit Go.Shelf Limb

theorem ent_at {S : Nat → Prop} {w : World} {a : Option Addr} {m c : Nat} {H : List Int} (h : RRts S w (.slice a m c) (H.map bill)) {j : Nat} (hj : j < H.length) (h0 : 0 ≤ gI H j) :
  ∃ b off u3 l3 m3 u4 l4 m4,a = some ⟨b,off,none⟩ ∧ S b ∧ b < w.heap.size ∧ w.cell? ⟨b,off + j * 3,none⟩ = some (.bool false) ∧ w.cell? ⟨b,off + j * 3 + 1,none⟩ = some (.slice u3 l3 m3) ∧ w.cell? ⟨b,off + j * 3 + 2,none⟩ = some (.slice u4 l4 m4) ∧
   VRt Any w (.agg #[.bool false,.slice u3 l3 m3,.slice u4 l4 m4]) (bill (gI H j)) := by
 obtain ⟨hb_,hoff,d0,d1,d2,rfl,hS3,hsz3,k0,k1,k2,kd⟩ := RSl.at3 h j (by rw [List.length_map];exact hj)
 have hv := VRt.from kd
 rw [List.getElem_map,← gI_at hj] at hv
 obtain ⟨hn,hhn⟩ : ∃ n : Nat,gI H j = (n : Int) := ⟨(gI H j).toNat,by omega⟩
 rw [hhn] at hv ⊢
 have hv0 := hv
 rw [bill_of] at hv
 obtain ⟨vn,vd,he,h1,h2⟩ := hv
 simp only [Value.agg.injEq,Array.mk.injEq,List.cons.injEq,and_true] at he
 obtain ⟨rfl,rfl,rfl⟩ := he
 obtain ⟨u3,m3,rfl,-,-⟩ := RSl.shape h1
 obtain ⟨u4,m4,rfl,-,-⟩ := RSl.shape h2
 exact ⟨hb_,hoff,_,_,_,_,_,_,rfl,hS3,hsz3,k0,k1,k2,hv0.any⟩
theorem cmpN_eq {a b : Nat} : (cmpN a b == 0) = decide (a = b) := by
 unfold cmpN
 by_cases h1 : a < b
 ·rw [if_pos h1];simp;omega
 ·rw [if_neg h1]
  by_cases h2 : b < a
  ·rw [if_pos h2];simp;omega
  ·rw [if_neg h2];simp;omega
theorem cmpN_one {a b : Nat} (h : a ≤ b) : (cmpN a b == 1) = false := by
 unfold cmpN;split <;> (try split) <;> first | rfl | omega
theorem cmpN_neg {a b : Nat} (h : b ≤ a) : (cmpN a b == -1) = false := by
 unfold cmpN;split <;> (try split) <;> first | rfl | omega
theorem alk_step {H l : List Int} {x : Int} {k : Nat} {b0 : Bool} (h0 : hasI l k = b0) : alkL (k + 1) H l x = alkL k H l x ++ if (b0 && decide (gI H k = gI H x)) = true then [(k : Int)] else [] := by
 rw [alkL,alkL,rngI_succ,List.filter_append]
 congr 1
 rw [← h0,hasI]
 cases h : (l.contains (k : Int) && decide (gI H k = gI H x))
 ·rw [List.filter_cons,h];rfl
 ·rw [List.filter_cons,h];rfl
end

section
open Go Go.RowKit Go.Shelf Limb

theorem last_none {lot among : List Int} {k : Nat} (hk : k < lot.length) (h1 : (lot.drop (k + 1)).reverse.find? (fun x => hasI among x) = none) (h2 : hasI among lot[k] = false) : (lot.drop k).reverse.find? (fun x => hasI among x) = none := by
 rw [List.drop_eq_getElem_cons hk,List.reverse_cons,List.find?_append,h1];simp [h2]
theorem last_some {lot among : List Int} {k : Nat} (hk : k < lot.length) (h1 : (lot.drop (k + 1)).reverse.find? (fun x => hasI among x) = none) (h2 : hasI among lot[k] = true) : firstL lot.reverse among = lot[k] := by
 rw [firstL]
 have e : lot.reverse = (lot.drop (k + 1)).reverse ++ lot[k] :: (lot.take k).reverse := by
  conv => lhs;rw [← List.take_append_drop k lot,List.drop_eq_getElem_cons hk,List.reverse_append,List.reverse_cons,List.append_assoc]
  rfl
 rw [e,List.find?_append,show (lot.drop (k + 1)).reverse.find? (fun x => among.contains x) = none from h1,List.find?_cons,show among.contains lot[k] = true from h2];rfl
set_option maxHeartbeats 1000000 in
theorem r11Last (S T : Nat → Prop) (u v : Value) (lot among : List Int) (w : World) (h : RInts S w u lot) (hv : RInts T w v among) (hl : lot.length ≤ 1000000) :
  Calls Tryz.prog 57 #[u,v] w fun e w' => e = .returned (.int .i64 (firstL lot.reverse among)) ∧ w = w' := by
 obtain ⟨a,cap,rfl,h1,h2⟩ := RSl.shape h
 have hI := fun n => r11In T v among n w hv
 have HI := Lib.hid hI
 clear hI hv
 obtain ⟨nl,hnl⟩ : ∃ n,lot.length = n := ⟨_,rfl⟩
 rw [hnl] at hl
 have h0 : nl = 0 → firstL lot.reverse among = 0 := fun e => by rw [List.eq_nil_of_length_eq_zero (hnl.trans e)];rfl
 have hz : (lot.drop nl).reverse.find? (fun x => hasI among x) = none := by rw [← hnl,List.drop_length];rfl
 rw [hnl]
 have Hnl := Lib.hid hnl;have Hz := Lib.hid hz;have H0 := Lib.hid h0;have HS := Lib.hid h
 clear hnl hz h0 h h1 h2
 go_enter Tryz.func57,Tryz.ntmps57
 go_wp2
 go_loop [5] (fun i => ∃ k : Nat,k ≤ nl ∧ i = .int .i64 ((k : Int) - 1) ∧ Hid ((lot.drop k).reverse.find? (fun x => hasI among x) = none)) (fun i => (intOf i + 1).toNat)
 case atStart => exact ⟨nl,Nat.le_refl _,rfl,Hz⟩
 case round =>
  obtain ⟨k,hk,rfl,hg⟩ := hrel
  cases k with
  | zero =>
   have hfin : firstL lot.reverse among = 0 := by
    have := hg.out
    rw [List.drop_zero] at this
    rw [firstL,show lot.reverse.find? (fun x => among.contains x) = none from this];rfl
   have Hfin := Lib.hid hfin
   clear hfin
   go_wp2
   go_ret
   exact ⟨qac Hfin.out.symm,rfl⟩
  | succ k =>
   have hlt : k < lot.length := by rw [Hnl.out];omega
   obtain ⟨b,off,c,rfl,hS,hbw,hc,hx⟩ := RSl.at1 HS.out k hlt
   obtain ⟨rfl,-⟩ := hx.open
   have hin := HI.out lot[k]
   have hi : (((k + 1 : Nat) : Int) - 1) = (k : Int) := by omega
   rw [hi]
   cases he : hasI among lot[k]
   ·rw [he] at hin
    have He := Lib.hid he;have Hin := Lib.hid hin;have Hlt := Lib.hid hlt
    clear he hin hi
    go_wp2_with (go_at_call 39;refine Hin.out.mono ?_;rintro e w1 ⟨rfl,rfl⟩)
    go_round
    case rel => exact ⟨k,by omega,by go_num,Lib.hid (last_none Hlt.out hg.out He.out)⟩
    case measure => simp [intOf]
   ·rw [he] at hin
    have He := Lib.hid he;have Hin := Lib.hid hin;have Hlt := Lib.hid hlt
    clear he hin hi
    go_wp2_with (go_at_call 39;refine Hin.out.mono ?_;rintro e w1 ⟨rfl,rfl⟩)
    go_ret
    exact ⟨qac (last_some Hlt.out hg.out He.out).symm,rfl⟩
end
end Go.Proofs.YthcbkhfmdginiaaGreat
