/- Texts of one claim, put together: RenS, RenT, GreN. -/
import Derived.Test.YthcbkhfmdginiaaGreatAGDec
import Derived.Test.YthcbkhfmdginiaaGreatAGRen
import Derived.Test.YthcbkhfmdginiaaGreatAGGreM

namespace Go.Proofs.YthcbkhfmdginiaaGreat
section

theorem img_in {perm l : List Int} {C : Nat} (hp : LotOf perm C) (hl : ∀ z ∈ l, 0 ≤ z ∧ z < (C : Int)) {x : Int} (x0 : 0 ≤ x) (x1 : x < C) : gI perm x ∈ l.map (gI perm) ↔ x ∈ l := by
 obtain ⟨n, rfl⟩ : ∃ n : Nat, x = n := ⟨x.toNat, by omega⟩
 exact mem_map_perm hp hl (by omega)
theorem img_drop {perm l : List Int} {C : Nat} (hp : LotOf perm C) (hl : ∀ z ∈ l, 0 ≤ z ∧ z < (C : Int)) {w : Int} (w0 : 0 ≤ w) (w1 : w < C) :
  (imgL perm C l).filter (fun y => !(y == gI perm w)) = imgL perm C (l.filter fun y => !(y == w)) := by
 rw [imgL, imgL, List.filter_filter]
 apply List.filter_congr
 intro y hy
 obtain ⟨y0, y1⟩ := qaz.1 hy
 obtain ⟨x, x0, x1, rfl⟩ := img_surj hp y0 y1
 have hxx : (gI perm x == gI perm w) = (x == w) := by
  rw [Bool.eq_iff_iff, beq_iff_eq, beq_iff_eq]
  exact ⟨fun q => gI_inj hp x0 x1 w0 w1 q, fun q => by rw [q]⟩
 rw [Bool.eq_iff_iff, Bool.and_eq_true, List.contains_iff_mem, List.contains_iff_mem, img_in hp hl x0 x1, img_in hp (fun z hz => hl z (List.mem_filter.1 hz).1) x0 x1, List.mem_filter, hxx]
 exact And.comm
theorem img_nil {perm : List Int} {C : Nat} : imgL perm C [] = [] := List.filter_eq_nil_iff.2 fun y _ => by simp
theorem fill_ren {had had2 lot left perm : List Int} {C : Nat} (hp : LotOf perm C) (hl : LotOf lot C) (hr : ∀ x ∈ left, 0 ≤ x ∧ x < (C : Int)) (hn : left.Nodup) (hf : ∀ x : Int, 0 ≤ x → x < C → gI had2 (gI perm x) = gI had x) :
  ∀ i, i ≤ left.length → (fillS had2 (lot.map (gI perm)) (imgL perm C left) i).left = imgL perm C (fillS had lot left i).left ∧ (fillS had2 (lot.map (gI perm)) (imgL perm C left) i).elected = (fillS had lot left i).elected.map (gI perm) ∧ (fillS had2 (lot.map (gI perm)) (imgL perm C left) i).ties = (fillS had lot left i).ties.map (tieRen perm C)
 | 0, _ => ⟨rfl, rfl, rfl⟩
 | i + 1, h => by
  obtain ⟨e1, e2, e3⟩ := fill_ren hp hl hr hn hf i (by omega)
  obtain ⟨f1, f2, f3, f4, f5, f6⟩ := qb0 (had := had) hl hr hn i (by omega)
  have hr2 : ∀ x ∈ (fillS had lot left i).left, 0 ≤ x ∧ x < (C : Int) := fun x hx => by
   rw [f1] at hx
   exact hr x (List.mem_filter.1 hx).1
  have hne : (fillS had lot left i).left ≠ [] := fun h0 => by rw [h0, List.length_nil] at f5; omega
  have hbn := bestL_ne (f := gI had) hne
  have hbr : ∀ x ∈ bestL (gI had) (fillS had lot left i).left, 0 ≤ x ∧ x < (C : Int) := fun x hx => hr2 x (qag.1 hx).1
  have hbd : (bestL (gI had) (fillS had lot left i).left).Nodup := by
   rw [bestL, f1]
   exact List.Pairwise.filter _ (List.Pairwise.filter _ hn)
  have hb := best_img (f := gI had) (f2 := gI had2) hp hr2 hf
  have hx := first_img hp hl hbr hbn
  obtain ⟨x0, hx0⟩ := List.exists_mem_of_ne_nil _ hbn
  have k1 := (qaw (lot := lot) ⟨x0, (hl.all _).2 (hbr _ hx0), hx0⟩).1
  have hw0 := hbr _ k1
  simp only [fillS, e1, e2, e3, hb, hx]
  refine ⟨img_drop hp hr2 hw0.1 hw0.2, by rw [List.map_append]; rfl, ?_⟩
  rw [List.map_append, tieL, tieL, img_length hp hbr hbd]
  congr 1
  split <;> rfl
structure RuleN {σ : Type} (C : Nat) (perm : List Int) (rel : σ → σ → Prop) (R R2 : Rule σ) : Prop where
 len : ∀ st inn el, (R.had st inn el).length = C ∧ (R2.had st inn el).length = C
 had : ∀ {st st2 inn el}, rel st st2 → (∀ x ∈ inn, 0 ≤ x ∧ x < (C : Int)) → (∀ x ∈ el, 0 ≤ x ∧ x < (C : Int)) → inn.Nodup → ∀ x : Int, 0 ≤ x → x < C → gI (R2.had st2 (imgL perm C inn) (el.map (gI perm))) (gI perm x) = gI (R.had st inn el) x
 lost : ∀ {st st2 inn el}, rel st st2 → (∀ x ∈ inn, 0 ≤ x ∧ x < (C : Int)) → (∀ x ∈ el, 0 ≤ x ∧ x < (C : Int)) → inn.Nodup → R2.lost st2 (imgL perm C inn) (el.map (gI perm)) = R.lost st inn el
 reach : ∀ {st st2 inn el}, rel st st2 → (∀ x ∈ inn, 0 ≤ x ∧ x < (C : Int)) → (∀ x ∈ el, 0 ≤ x ∧ x < (C : Int)) → inn.Nodup → R2.reach st2 (imgL perm C inn) (el.map (gI perm)) = R.reach st inn el
 win : ∀ {st st2 inn el}, rel st st2 → (∀ x ∈ inn, 0 ≤ x ∧ x < (C : Int)) → (∀ x ∈ el, 0 ≤ x ∧ x < (C : Int)) → inn.Nodup → ∀ x ∈ inn, rel (R.win st inn el x) (R2.win st2 (imgL perm C inn) (el.map (gI perm)) (gI perm x))
 out : ∀ {st st2 inn el}, rel st st2 → (∀ x ∈ inn, 0 ≤ x ∧ x < (C : Int)) → (∀ x ∈ el, 0 ≤ x ∧ x < (C : Int)) → inn.Nodup → ∀ x ∈ inn, rel (R.out st inn el x) (R2.out st2 (imgL perm C inn) (el.map (gI perm)) (gI perm x))
structure SqN {σ : Type} (C : Nat) (perm : List Int) (rel : σ → σ → Prop) (s s2 : Sq σ) : Prop where
 st : rel s.st s2.st
 inn : s2.inn = imgL perm C s.inn
 el : s2.el = s.el.map (gI perm)
 rounds : s2.rounds = s.rounds.map (renRnd perm)
 ties : s2.ties = s.ties.map (renTie perm)
theorem permK_bill {z0 : Rt} {perm had had2 : List Int} {C : Nat} {f : Int → Rt} (hp : LotOf perm C) (hC : had.length = C) (hC2 : had2.length = C) (hf : ∀ x : Int, 0 ≤ x → x < C → gI had2 (gI perm x) = gI had x) :
  permK z0 perm (had.map f) C = had2.map f := by
 apply List.ext_getElem (by rw [qak, List.length_map, List.length_map, hC, hC2])
 intro z h1 h2
 have hz : z < C := by rw [qak, List.length_map, hC] at h1; exact h1
 obtain ⟨q1, q2⟩ := idx_lt hp (z := (z : Int)) (by omega) (by omega)
 have h3 := hf (perm.idxOf (z : Int) : Nat) (by omega) (by omega)
 rw [q2, gI_at (by omega), gI_at (by omega)] at h3
 rw [permK_get, if_pos q1, List.getD_eq_getElem?_getD, List.getElem?_eq_getElem (by rw [List.length_map]; omega), List.getElem_map, List.getElem_map, h3]; rfl
theorem tie_ren {perm : List Int} {C : Nat} (hp : LotOf perm C) {t : Tie} (ha : ∀ x ∈ t.among, 0 ≤ x ∧ x < (C : Int)) (hc : 0 ≤ t.chosen ∧ t.chosen < (C : Int)) : renTie perm t = tieRen perm C t := by
 have hw1 : namL perm [t.chosen] = [gI perm t.chosen] := namL_in hp (l := [t.chosen]) fun x hx => by rw [List.mem_singleton.1 hx]; exact hc
 rw [tieRen, renTie, imgL, hp.len, namL_in hp ha, hw1]; rfl
theorem tieL_ren {perm am : List Int} {C : Nat} {x : Int} (hp : LotOf perm C) (ha : ∀ y ∈ am, 0 ≤ y ∧ y < (C : Int)) (hd : am.Nodup) (hx : 0 ≤ x ∧ x < (C : Int)) : tieL (imgL perm C am) (gI perm x) = (tieL am x).map (renTie perm) := by
 rw [tieL, tieL, img_length hp ha hd]
 split
 ·rw [List.map_cons, List.map_nil, tie_ren (t := ⟨am, x⟩) hp ha hx]; rfl
 ·rfl
theorem fill_ties {had lot left : List Int} {C : Nat} (hl : LotOf lot C) (hr : ∀ x ∈ left, 0 ≤ x ∧ x < (C : Int)) (hn : left.Nodup) : ∀ i, i ≤ left.length → ∀ t ∈ (fillS had lot left i).ties, (∀ x ∈ t.among, 0 ≤ x ∧ x < (C : Int)) ∧ 0 ≤ t.chosen ∧ t.chosen < (C : Int)
 | 0, _, t, h => absurd h List.not_mem_nil
 | i + 1, h, t, ht => by
  obtain ⟨f1, f2, f3, f4, f5, f6⟩ := qb0 (had := had) hl hr hn i (by omega)
  have hr2 : ∀ x ∈ (fillS had lot left i).left, 0 ≤ x ∧ x < (C : Int) := fun x hx => by
   rw [f1] at hx
   exact hr x (List.mem_filter.1 hx).1
  have hne : (fillS had lot left i).left ≠ [] := fun h0 => by rw [h0, List.length_nil] at f5; omega
  have hbr : ∀ x ∈ bestL (gI had) (fillS had lot left i).left, 0 ≤ x ∧ x < (C : Int) := fun x hx => hr2 x (qag.1 hx).1
  obtain ⟨x0, hx0⟩ := List.exists_mem_of_ne_nil _ (bestL_ne (f := gI had) hne)
  have k1 := (qaw (lot := lot) ⟨x0, (hl.all _).2 (hbr _ hx0), hx0⟩).1
  simp only [fillS] at ht
  rcases List.mem_append.1 ht with ht | ht
  ·exact fill_ties hl hr hn i (by omega) t ht
  ·rw [tieL] at ht
   split at ht
   ·rw [List.mem_singleton.1 ht]; exact ⟨hbr, hbr _ k1⟩
   ·cases ht
section
variable {σ : Type} {R R2 : Rule σ} {rel : σ → σ → Prop} {seats C : Nat} {lot perm : List Int}
theorem rnd_ren (hp : LotOf perm C) (hN : RuleN C perm rel R R2) {s s2 : Sq σ} (n : SqN C perm rel s s2) (h : SqI C seats s) {e o : List Int} (he : ∀ x ∈ e, 0 ≤ x ∧ x < (C : Int)) (ho : ∀ x ∈ o, 0 ≤ x ∧ x < (C : Int)) :
  s2.rnd R2 (e.map (gI perm)) (o.map (gI perm)) = renRnd perm (s.rnd R e o) := by
 have hn := qb1 h.asc
 have hf := hN.had n.st h.rng h.els hn
 have hl := hN.lost n.st h.rng h.els hn
 simp only [Sq.rnd, renRnd, Sq.had, Sq.lost, n.inn, n.el, List.length_map, (hN.len _ _ _).1, hl, namL_in hp he, namL_in hp ho]
 rw [permK_bill hp (hN.len _ _ _).1 (hN.len _ _ _).2 hf]
theorem step_ren (hp : LotOf perm C) (hl : LotOf lot C) (hN : RuleN C perm rel R R2) {s s2 : Sq σ} (n : SqN C perm rel s s2) (h : SqI C seats s) (h2 : s.el.length < seats) :
  SqN C perm rel (step R seats lot s) (step R2 seats (lot.map (gI perm)) s2) := by
 have hn := qb1 h.asc
 have hf := hN.had n.st h.rng h.els hn
 have hre := hN.reach n.st h.rng h.els hn
 have hne := h.ne h2
 have hH2 : s2.had R2 = R2.had s2.st (imgL perm C s.inn) (s.el.map (gI perm)) := by rw [Sq.had, n.inn, n.el]
 have hR2 : s2.reach R2 = s.reach R := by rw [Sq.reach, n.inn, n.el, hre]; rfl
 have hlen : s2.inn.length + s2.el.length = s.inn.length + s.el.length := by rw [n.inn, n.el, img_length hp h.rng hn, List.length_map]
 have hf1 : ∀ x : Int, 0 ≤ x → x < C → gI (s2.had R2) (gI perm x) = gI (s.had R) x := by rw [hH2]; exact hf
 have hbest : s2.best R2 = imgL perm C (s.best R) := by
  rw [Sq.best, n.inn]; exact best_img hp h.rng hf1
 have hleast : s2.least R2 = imgL perm C (s.least R) := by
  rw [Sq.least, n.inn]
  exact best_img (f := fun y => - gI (s.had R) y) (f2 := fun y => - gI (s2.had R2) y) hp h.rng fun x x0 x1 => by rw [hf1 x x0 x1]
 unfold step
 rw [hlen]
 split
 ·obtain ⟨q1, q2, q3⟩ := fill_ren hp hl h.rng hn hf1 s.inn.length (Nat.le_refl _)
  obtain ⟨f1, f2, f3, f4, f5, f6⟩ := qb0 (had := s.had R) hl h.rng hn s.inn.length (Nat.le_refl _)
  have e1 : s2.fill R2 (lot.map (gI perm)) = fillS (s2.had R2) (lot.map (gI perm)) (imgL perm C s.inn) s.inn.length := by rw [Sq.fill, n.inn, img_length hp h.rng hn]
  have e2 : s.fill R lot = fillS (s.had R) lot s.inn s.inn.length := rfl
  refine ⟨n.st, img_nil.symm, ?_, ?_, ?_⟩
  ·rw [List.map_append, n.el, e1, q2, e2]
  ·rw [List.map_append, n.rounds, List.map_cons, List.map_nil, e1, q2, e2]
   dsimp only
   congr 2
   exact rnd_ren hp hN n h (e := (fillS (s.had R) lot s.inn s.inn.length).elected) (o := []) (fun x hx => h.rng x (f3 x hx)) (fun x hx => absurd hx List.not_mem_nil)
  ·rw [List.map_append, n.ties, e1, q3, e2]
   dsimp only
   congr 1
   apply List.map_congr_left
   intro t ht
   obtain ⟨t1, t2⟩ := fill_ties hl h.rng hn s.inn.length (Nat.le_refl _) t ht
   exact (tie_ren hp t1 t2).symm
 ·rw [hR2]
  split
  ·obtain ⟨k1, k2⟩ := h.pick hl (f := gI (s.had R)) hne
   have k2' : firstL lot (s.best R) ∈ s.inn := k2
   have hx := h.rng _ k2'
   have hbr : ∀ x ∈ s.best R, 0 ≤ x ∧ x < (C : Int) := fun x hx => h.rng x (qag.1 hx).1
   have hbn : s.best R ≠ [] := List.ne_nil_of_mem k1
   have hfi : firstL (lot.map (gI perm)) (s2.best R2) = gI perm (firstL lot (s.best R)) := by rw [hbest]; exact first_img hp hl hbr hbn
   have hbd : (s.best R).Nodup := by rw [Sq.best, bestL]; exact List.Pairwise.filter _ hn
   refine ⟨?_, ?_, ?_, ?_, ?_⟩
   ·simp only [hfi, n.inn, n.el]; exact hN.win n.st h.rng h.els hn _ k2'
   ·simp only [hfi, n.inn]; exact img_drop hp h.rng hx.1 hx.2
   ·simp only [hfi, n.el, List.map_append, List.map_cons, List.map_nil]
   ·simp only [hfi, n.rounds, List.map_append, List.map_cons, List.map_nil]
    congr 2
    exact rnd_ren hp hN n h (e := [firstL lot (s.best R)]) (o := []) (fun x hx' => by rw [List.mem_singleton.1 hx']; exact hx) (fun x hx => absurd hx List.not_mem_nil)
   ·have hfi2 := hfi
    rw [hbest] at hfi2
    simp only [hbest, hfi2, n.ties, List.map_append]
    rw [tieL_ren hp hbr hbd hx]
  ·obtain ⟨k1, k2⟩ := h.pick (qb9 hl) (f := fun y => - gI (s.had R) y) hne
   have k2' : firstL lot.reverse (s.least R) ∈ s.inn := k2
   have hx := h.rng _ k2'
   have hbr : ∀ x ∈ s.least R, 0 ≤ x ∧ x < (C : Int) := fun x hx => h.rng x (qag.1 hx).1
   have hbn : s.least R ≠ [] := List.ne_nil_of_mem k1
   have hfi : firstL (lot.map (gI perm)).reverse (s2.least R2) = gI perm (firstL lot.reverse (s.least R)) := by rw [hleast, ← List.map_reverse]; exact first_img hp (qb9 hl) hbr hbn
   have hbd : (s.least R).Nodup := by rw [Sq.least, bestL]; exact List.Pairwise.filter _ hn
   refine ⟨?_, ?_, n.el, ?_, ?_⟩
   ·simp only [hfi, n.inn, n.el]; exact hN.out n.st h.rng h.els hn _ k2'
   ·simp only [hfi, n.inn]; exact img_drop hp h.rng hx.1 hx.2
   ·simp only [hfi, n.rounds, List.map_append, List.map_cons, List.map_nil]
    congr 2
    exact rnd_ren hp hN n h (e := []) (o := [firstL lot.reverse (s.least R)]) (fun x hx => absurd hx List.not_mem_nil) (fun x hx' => by rw [List.mem_singleton.1 hx']; exact hx)
   ·have hfi2 := hfi
    rw [hleast] at hfi2
    simp only [hleast, hfi2, n.ties, List.map_append]
    rw [tieL_ren hp hbr hbd hx]
theorem img_rng {C : Nat} (hp : LotOf perm C) : imgL perm C (rngI C) = rngI C := by
 rw [imgL]
 refine List.filter_eq_self.2 fun y hy => ?_
 obtain ⟨y0, y1⟩ := qaz.1 hy
 obtain ⟨x, x0, x1, rfl⟩ := img_surj hp y0 y1
 exact List.contains_iff_mem.2 (List.mem_map.2 ⟨x, qaz.2 ⟨x0, x1⟩, rfl⟩)
theorem run_ren (hp : LotOf perm C) (hl : LotOf lot C) (hs : seats ≤ C) (hN : RuleN C perm rel R R2) {s0 t0 : σ} (h0 : rel s0 t0) : ∀ k, SqN C perm rel (run R seats lot s0 C k) (run R2 seats (lot.map (gI perm)) t0 C k)
 | 0 => ⟨h0, (img_rng hp).symm, rfl, rfl, rfl⟩
 | k + 1 => by
  have ih := run_ren hp hl hs hN h0 k
  have hI := run_inv (R := R) (s0 := s0) hl hs k
  have hlen : (run R2 seats (lot.map (gI perm)) t0 C k).el.length = (run R seats lot s0 C k).el.length := by rw [ih.el, List.length_map]
  rw [run, run, hlen]
  split
  ·exact step_ren hp hl hN ih hI (by assumption)
  ·exact ih
end
theorem fill_tlen {had lot left : List Int} {C : Nat} (hl : LotOf lot C) (hr : ∀ x ∈ left, 0 ≤ x ∧ x < (C : Int)) (hn : left.Nodup) : ∀ i, i ≤ left.length → ∀ t ∈ (fillS had lot left i).ties, t.among.length ≤ left.length
 | 0, _, t, h => absurd h List.not_mem_nil
 | i + 1, h, t, ht => by
  obtain ⟨f1, f2, f3, f4, f5, f6⟩ := qb0 (had := had) hl hr hn i (by omega)
  simp only [fillS] at ht
  rcases List.mem_append.1 ht with ht | ht
  ·exact fill_tlen hl hr hn i (by omega) t ht
  ·rw [tieL] at ht
   split at ht
   ·rw [List.mem_singleton.1 ht]
    have := List.length_filter_le (fun x => (fillS had lot left i).left.all fun y => decide (gI had y ≤ gI had x)) (fillS had lot left i).left
    rw [bestL]; simp only; omega
   ·cases ht
theorem tie_of {am : List Int} {x : Int} {n : Nat} (h : am.length ≤ n) : ∀ t ∈ tieL am x, t.among.length ≤ n := fun t ht => by
 rw [tieL] at ht
 split at ht
 ·rw [List.mem_singleton.1 ht]; exact h
 ·cases ht
theorem run_tie {σ : Type} {R : Rule σ} {seats C : Nat} {lot : List Int} {s0 : σ} (hl : LotOf lot C) (hs : seats ≤ C) : ∀ k, ∀ t ∈ (run R seats lot s0 C k).ties, t.among.length ≤ C
 | 0, t, h => absurd h List.not_mem_nil
 | k + 1, t, ht => by
  have ih := run_tie (R := R) (s0 := s0) hl hs k
  have hI := run_inv (R := R) (s0 := s0) hl hs k
  rw [run] at ht
  split at ht
  ·have hn := qb1 hI.asc
   have hi := hI.rounds
   generalize run R seats lot s0 C k = s at *
   have hb : ∀ f, (bestL f s.inn).length ≤ C := fun f => Nat.le_trans (List.length_filter_le _ _) (by omega)
   unfold step at ht
   split at ht
   ·rcases List.mem_append.1 ht with ht | ht
    ·exact ih t ht
    ·exact Nat.le_trans (fill_tlen hl hI.rng hn s.inn.length (Nat.le_refl _) t ht) (by omega)
   ·split at ht
    ·rcases List.mem_append.1 ht with ht | ht
     ·exact ih t ht
     ·exact tie_of (hb _) t ht
    ·rcases List.mem_append.1 ht with ht | ht
     ·exact ih t ht
     ·exact tie_of (hb _) t ht
  ·exact ih t ht
end

section

def renRow (perm : List Int) (r : Row) : Row := ⟨r.marks.map (gI perm), r.many⟩
theorem putR_perm {m : List Int} {n : Int} : ∀ {rs : List Row}, (∀ r ∈ rs, r.marks ≠ m) → List.Perm (putR rs m n) (⟨m, n⟩ :: rs)
 | [], _ => .refl _
 | r :: rs, h => by
  rw [putR]
  split
  ·exact ((putR_perm fun s hs => h s (List.mem_cons_of_mem _ hs)).cons r).trans (.swap _ _ _)
  ·rw [if_neg (h r List.mem_cons_self)]
theorem map_inj_in {f : Int → Int} {P : Int → Prop} (hf : ∀ x y, P x → P y → f x = f y → x = y) : ∀ {a b : List Int}, (∀ x ∈ a, P x) → (∀ x ∈ b, P x) → a.map f = b.map f → a = b
 | [], [], _, _, _ => rfl
 | [], _ :: _, _, _, h => by cases h
 | _ :: _, [], _, _, h => by cases h
 | x :: a, y :: b, ha, hb, h => by
  simp only [List.map_cons, List.cons.injEq] at h
  rw [hf x y (ha x List.mem_cons_self) (hb y List.mem_cons_self) h.1, map_inj_in hf (fun z hz => ha z (List.mem_cons_of_mem _ hz)) (fun z hz => hb z (List.mem_cons_of_mem _ hz)) h.2]
theorem asc_pair : ∀ {rs : List Row}, Asc rs → rs.Pairwise (fun a b => a.marks ≠ b.marks)
 | [], _ => .nil
 | r :: rs, h => List.pairwise_cons.2 ⟨fun s hs e => by have := h.2.1 s hs; rw [e, cmpL_self] at this; omega, asc_pair h.2.2⟩
theorem renM_one (perm m : List Int) : renM 1 perm m = m.map (gI perm) := by
 rw [renM, if_neg (by decide), ren_nam (by decide)]
theorem renR_perm {perm : List Int} {C : Nat} (hp : LotOf perm C) {rows : List Row} (hm : ∀ r ∈ rows, ∀ x ∈ r.marks, 0 ≤ x ∧ x < (C : Int)) (hd : rows.Pairwise fun a b => a.marks ≠ b.marks) :
  List.Perm (renR 1 perm rows) (rows.map (renRow perm)) := by
 have key : ∀ i, i ≤ rows.length → List.Perm (renR 1 perm (rows.take i)) ((rows.take i).map (renRow perm)) := by
  intro i
  induction i with
  | zero => intro _; rw [List.take_zero]; exact .refl _
  | succ i ih =>
   intro hi
   have hi' : i < rows.length := by omega
   have ih := ih (by omega)
   rw [renR_take hi', List.take_succ_eq_append_getElem hi', List.map_append, List.map_cons, List.map_nil, renM_one]
   refine (putR_perm fun s hs e => ?_).trans ((ih.cons _).trans (List.perm_append_singleton _ _).symm)
   obtain ⟨q, hq, rfl⟩ := List.mem_map.1 (ih.mem_iff.1 hs)
   have e2 : q.marks = rows[i].marks := map_inj_in (f := gI perm) (P := fun x => 0 ≤ x ∧ x < (C : Int)) (fun x y hx hy => gI_inj hp hx.1 hx.2 hy.1 hy.2) (hm q (List.mem_of_mem_take hq)) (hm _ (List.getElem_mem hi')) e
   obtain ⟨j, hj, rfl⟩ := List.getElem_of_mem hq
   rw [List.length_take] at hj
   rw [List.getElem_take] at e2
   exact List.pairwise_iff_getElem.1 hd j i (by omega) hi' (by omega) e2
 have := key rows.length (Nat.le_refl _)
 rwa [List.take_length] at this
theorem sum_perm {a b : List Int} (h : List.Perm a b) : a.sum = b.sum := by
 induction h with
 | nil => rfl
 | cons a _ ih => rw [List.sum_cons, List.sum_cons, ih]
 | swap a b l => rw [List.sum_cons, List.sum_cons, List.sum_cons, List.sum_cons]; omega
 | trans _ _ i j => exact i.trans j
end

section

def renP (perm : List Int) (p : Row × Int) : Row × Int := (renRow perm p.1, p.2)
structure RelG (C : Nat) (perm : List Int) (st st2 : RV) : Prop where
 rng : ∀ p ∈ st, ∀ x ∈ p.1.marks, 0 ≤ x ∧ x < (C : Int)
 perm : List.Perm st2 (st.map (renP perm))
section
variable {C : Nat} {perm : List Int} {inn el : List Int}
end
theorem markS_ren {perm : List Int} {rows rows2 : List Row} (h : List.Perm rows2 (rows.map (renRow perm))) : markS rows2 = markS rows := by
 rw [markS, markS, sum_perm ((h.filter _).map _)]
 congr 1
 rw [List.filter_map, List.map_map]
 have : ((fun r : Row => !r.marks.isEmpty) ∘ renRow perm) = fun r : Row => !r.marks.isEmpty := by
  funext r
  simp only [Function.comp_apply, renRow]
  cases r.marks <;> rfl
 rw [this]; rfl
end
end Go.Proofs.YthcbkhfmdginiaaGreat
