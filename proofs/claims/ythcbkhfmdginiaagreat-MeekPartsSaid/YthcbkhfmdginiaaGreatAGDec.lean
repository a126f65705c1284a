/- Texts of one claim, put together: RunP, RouP. -/
import Derived.Test.YthcbkhfmdginiaaGreatAGGreM

namespace Go.Proofs.YthcbkhfmdginiaaGreat
section

section
variable {σ : Type} {R : Rule σ} {seats C : Nat} {lot : List Int} {s0 : σ}
def SqO (s : Sq σ) : Prop := ∀ x ∈ s.rounds.flatMap Rnd.out, x ∉ s.inn ∧ x ∉ s.el ∧ 0 ≤ x ∧ x < (C : Int)
theorem SqO.step {s : Sq σ} (hl : LotOf lot C) (h : SqI C seats s) (o : SqO (C := C) s) (h2 : s.el.length < seats) : SqO (C := C) (step R seats lot s) := by
 have hne := h.ne h2
 have hn := qb1 h.asc
 unfold Go.Proofs.YthcbkhfmdginiaaGreat.step
 split
 ·obtain ⟨f1, f2, f3, f4, f5, f6⟩ := qb0 (had := s.had R) hl h.rng hn s.inn.length (Nat.le_refl _)
  intro x hx
  simp only [List.flatMap_append, List.flatMap_cons, List.flatMap_nil, List.append_nil, Sq.rnd] at hx
  obtain ⟨k1, k2, k3⟩ := o x hx
  refine ⟨by simp, fun hm => ?_, k3⟩
  rcases List.mem_append.1 hm with hm | hm
  ·exact k2 hm
  ·exact k1 (f3 x hm)
 ·split
  ·obtain ⟨k1, k2⟩ := h.pick hl (f := gI (s.had R)) hne
   have k2' : firstL lot (s.best R) ∈ s.inn := k2
   generalize firstL lot (s.best R) = y at *
   intro x hx
   simp only [List.flatMap_append, List.flatMap_cons, List.flatMap_nil, List.append_nil, Sq.rnd] at hx
   obtain ⟨o1, o2, o3⟩ := o x hx
   refine ⟨fun hm => o1 (List.mem_filter.1 hm).1, fun hm => ?_, o3⟩
   rcases List.mem_append.1 hm with hm | hm
   ·exact o2 hm
   ·exact o1 (by rw [List.mem_singleton.1 hm]; exact k2')
  ·obtain ⟨k1, k2⟩ := h.pick (qb9 hl) (f := fun y => - gI (s.had R) y) hne
   have k2' : firstL lot.reverse (s.least R) ∈ s.inn := k2
   generalize firstL lot.reverse (s.least R) = y at *
   intro x hx
   simp only [List.flatMap_append, List.flatMap_cons, List.flatMap_nil, List.append_nil, Sq.rnd, List.mem_append, List.mem_singleton] at hx
   rcases hx with hx | rfl
   ·obtain ⟨o1, o2, o3⟩ := o x hx
    exact ⟨fun hm => o1 (List.mem_filter.1 hm).1, o2, o3⟩
   ·exact ⟨fun hm => by have := (List.mem_filter.1 hm).2; simp at this, h.apart _ k2', h.rng _ k2'⟩
end
end

section

structure StepD {σ : Type} (R : Rule σ) (seats : Nat) (lot : List Int) (s s' : Sq σ) (r : Rnd) : Prop where
 had : r.had = (s.had R).map bill
 lost : r.lost = bill (s.lost R)
 all : s.inn.length + s.el.length ≤ seats → r.elected.length = s.inn.length
 one : ¬ s.inn.length + s.el.length ≤ seats → r.elected.length + r.out.length = 1
 len : r.elected.length ≤ s.inn.length
 els : r.elected = (fillS (s.had R) lot s.inn r.elected.length).elected
 reach : ¬ s.inn.length + s.el.length ≤ seats → 0 < r.elected.length → s.reach R = true
 el : s'.el = s.el ++ r.elected
 none : r.out = [] → s'.inn = (fillS (s.had R) lot s.inn r.elected.length).left ∧ s'.ties = s.ties ++ (fillS (s.had R) lot s.inn r.elected.length).ties
 some : r.out ≠ [] → r.elected = [] ∧ r.out = [firstL lot.reverse (s.least R)] ∧ s.reach R = false ∧ s'.inn = s.inn.filter (fun y => !(y == firstL lot.reverse (s.least R))) ∧ s'.ties = s.ties ++ tieL (s.least R) (firstL lot.reverse (s.least R))
section
variable {σ : Type} {R : Rule σ} {seats C : Nat} {lot : List Int} {s : Sq σ}
end
end
end Go.Proofs.YthcbkhfmdginiaaGreat
