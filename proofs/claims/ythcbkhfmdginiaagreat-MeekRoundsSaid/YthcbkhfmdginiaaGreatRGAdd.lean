/- Texts of one claim,put together: ProfF. -/
import Derived.Test.YthcbkhfmdginiaaGreatRGProf

namespace Go.Proofs.YthcbkhfmdginiaaGreat
open Go Go.RowKit Go.Shelf

set_option maxHeartbeats 4000000 in
set_option maxRecDepth 100000 in
theorem profCheck (S : Nat → Prop) (v : Value) (p : Prof) (w : World) (h : VProf S w v p) :
  Calls Tryz.prog 70 #[v] w fun e w' => e = .returned (.int .i64 (chkP p)) ∧ Below w.heap.size w w' := by
 obtain ⟨a1,c1,rfl,hk1,hk2,hR⟩ := h
 by_cases hl : 64 < p.rows.length
 ·have hr : chkP p = 9 := by rw [chkP, if_pos hl]
  rw [hr]
  obtain ⟨pc,pk,rows⟩ := p
  simp only at hk1 hk2 hR hl ⊢
  clear hr hR
  go_enter Tryz.func70,Tryz.ntmps70
  go_wp2
  go_ret
  exact ⟨rfl,qa1 _ _⟩
 have hr : chkP p = if fineP p && newOk p.cands p.kind then (if 1000000 < sumR p.rows then 4 else 0) else 8 := by rw [chkP,if_neg hl]
 have hN := fun W => profNew p.cands p.kind W
 have hni : newI p.cands p.kind = if newOk p.cands p.kind then 0 else 2 := rfl
 have hsum : fineP p = true → 0 ≤ sumR p.rows := fun h => sumR_nonneg (fineP_iff.1 h).1
 obtain ⟨W0,hW0⟩ : ∃ W0,W0 = ((w.alloc (.cells #[.int .i64 p.cands,.int .u8 p.kind,.slice a1 p.rows.length c1] 24)).alloc (.cells #[.int .i64 0] 3)).alloc (.cells #[.bool true] 4) := ⟨_,rfl⟩
 have hb0 : Below w.heap.size w W0 := by rw [hW0];exact ((qa1 w _).alloc (by simp) _).alloc (by simp;omega) _
 have hz0 : W0.heap.size = w.heap.size + 3 := by rw [hW0];simp
 have g0 : W0.heap[w.heap.size]? = some (.cells #[.int .i64 p.cands,.int .u8 p.kind,.slice a1 p.rows.length c1] 24 (0,0)) := by rw [hW0];exact qay _ (qay _ (qa8 _ _))
 have g1 : W0.heap[w.heap.size + 1]? = some (.cells #[.int .i64 0] 3 (0,0)) := by
  rw [hW0]
  have := qa8 (w.alloc (.cells #[.int .i64 p.cands,.int .u8 p.kind,.slice a1 p.rows.length c1] 24)) (.cells #[.int .i64 0] 3)
  rw [World.size_alloc] at this
  exact qay _ this
 have g2 : W0.heap[w.heap.size + 2]? = some (.cells #[.bool true] 4 (0,0)) := by
  rw [hW0]
  have := qa8 ((w.alloc (.cells #[.int .i64 p.cands,.int .u8 p.kind,.slice a1 p.rows.length c1] 24)).alloc (.cells #[.int .i64 0] 3)) (.cells #[.bool true] 4)
  rwa [World.size_alloc,World.size_alloc] at this
 have hA := allP (Cut S w.heap.size) w.heap.size (w.heap.size + 2) (w.heap.size + 1) w.heap.size p a1 c1 W0 (hR.cut.same (.of_below hb0)) g2 g1 g0 (by omega) (by omega) ⟨hk1,hk2⟩ (fun b hb => hb.2) (by omega)
 have hAll : ∀ e w1,AllGives w.heap.size (w.heap.size + 1) w.heap.size p W0 e w1 → e = .returned (.bool (fineP p)) ∧ Below w.heap.size w w1 ∧ w.heap.size + 3 ≤ w1.heap.size ∧
   w1.heap[w.heap.size]? = some (.cells #[.int .i64 p.cands,.int .u8 p.kind,.slice a1 p.rows.length c1] 24 (0,0)) ∧
   (fineP p = true → w1.heap[w.heap.size + 1]? = some (.cells #[.int .i64 (min (sumR p.rows) 1000001)] 3 (0,0))) := fun e w1 ⟨h1,h2,h3,h4⟩ =>
  ⟨h1,hb0.trans h2,by have := h2.size;omega,h4.trans g0,h3⟩
 have hA2 := hA.mono hAll
 obtain ⟨fb,hfb⟩ : ∃ fb,fineP p = fb := ⟨_,rfl⟩
 obtain ⟨nb,hnb⟩ : ∃ nb,newOk p.cands p.kind = nb := ⟨_,rfl⟩
 obtain ⟨sm,hsm⟩ : ∃ sm,sumR p.rows = sm := ⟨_,rfl⟩
 rw [hfb] at hA2 hr hsum
 rw [hnb] at hr hni
 rw [hsm] at hA2 hr hsum
 rw [hni] at hN
 have hw : -9223372036854775808 ≤ p.cands ∧ p.cands ≤ 9223372036854775807 ∨ True := .inr trivial
 generalize (newP p.cands p.kind).cands = nc at hN
 generalize (newP p.cands p.kind).kind = nk at hN
 have HA := Lib.hid hA2;have HN := Lib.hid hN
 clear hA hA2 hN hAll g0 g1 g2 hw hb0 hz0 hni hR
 subst hW0
 cases fb
 ·have hr8 : chkP p = 8 := by rw [hr]; rfl
  rw [hr8]
  clear hr hr8 hsum
  cases nb
  all_goals
   go_enter Tryz.func70,Tryz.ntmps70
   go_wp2_with (first
    | (go_at_call 132;refine HA.out.mono ?_;rintro e w1 ⟨rfl,hb1,hz1,gp1,gs1⟩;obtain ⟨-,hc1,hf1⟩ := qa6 (Below.refl _ w1) (qa0 gp1) gp1;have Gs1 := Lib.hid gs1;clear gs1)
    | (go_at_call 136;refine (HN.out _).mono ?_;rintro e w2 ⟨rfl,hb2⟩;have hq2 := hb1.trans (hb2.mono hb1.size);have hz2 := hb2.size;have hy2 := hq2.size) )
   go_ret
   exact ⟨rfl,hq2.alloc hy2 _⟩
 cases nb
 ·have hr8 : chkP p = 8 := by rw [hr]; rfl
  rw [hr8]
  clear hr hr8 hsum
  go_enter Tryz.func70,Tryz.ntmps70
  go_wp2_with (first
   | (go_at_call 132;refine HA.out.mono ?_;rintro e w1 ⟨rfl,hb1,hz1,gp1,gs1⟩;obtain ⟨-,hc1,hf1⟩ := qa6 (Below.refl _ w1) (qa0 gp1) gp1;have Gs1 := Lib.hid gs1;clear gs1)
   | (go_at_call 136;refine (HN.out _).mono ?_;rintro e w2 ⟨rfl,hb2⟩;have hq2 := hb1.trans (hb2.mono hb1.size);have hz2 := hb2.size;have hy2 := hq2.size) )
  go_ret
  exact ⟨rfl,hq2.alloc hy2 _⟩
 have hs0 := hsum rfl
 have HA3 := Lib.hid (HA.out.mono fun e w1 h => (show e = .returned (.bool true) ∧ Below w.heap.size w w1 ∧ w.heap.size + 3 ≤ w1.heap.size ∧ w1.heap[w.heap.size]? = some (.cells #[.int .i64 p.cands,.int .u8 p.kind,.slice a1 p.rows.length c1] 24 (0,0)) ∧
  w1.heap[w.heap.size + 1]? = some (.cells #[.int .i64 (min sm 1000001)] 3 (0,0)) from ⟨h.1,h.2.1,h.2.2.1,h.2.2.2.1,h.2.2.2.2 rfl⟩))
 clear HA
 by_cases hs : 1000000 < sm
 ·have hr4 : chkP p = 4 := by rw [hr]; simp [hs]
  have hmn : 1000000 < min sm 1000001 := by omega
  rw [hr4]
  generalize min sm 1000001 = mn at *
  clear hr hr4 hsum
  go_enter Tryz.func70,Tryz.ntmps70
  go_wp2_with (first
   | (go_at_call 132;refine HA3.out.mono ?_;rintro e w1 ⟨rfl,hb1,hz1,gp1,gs1⟩;obtain ⟨-,hc1,hf1⟩ := qa6 (Below.refl _ w1) (qa0 gp1) gp1;have Gs1 := Lib.hid gs1;clear gs1)
   | (go_at_call 136;refine (HN.out _).mono ?_;rintro e w2 ⟨rfl,hb2⟩;have hq2 := hb1.trans (hb2.mono hb1.size);have hz2 := hb2.size;have hy2 := hq2.size;obtain ⟨gx2,hc2,hf2⟩ := qa6 hb2 (qa0 Gs1.out) Gs1.out;have hlt2 := qa0 gx2;have hc20 := hc2 0))
  go_ret
  exact ⟨rfl,hq2.alloc hy2 _⟩
 ·have hr0 : chkP p = 0 := by rw [hr]; simp [hs]
  have hmn : ¬ 1000000 < min sm 1000001 := by omega
  rw [hr0]
  generalize min sm 1000001 = mn at *
  clear hr hr0 hsum
  go_enter Tryz.func70,Tryz.ntmps70
  go_wp2_with (first
   | (go_at_call 132;refine HA3.out.mono ?_;rintro e w1 ⟨rfl,hb1,hz1,gp1,gs1⟩;obtain ⟨-,hc1,hf1⟩ := qa6 (Below.refl _ w1) (qa0 gp1) gp1;have Gs1 := Lib.hid gs1;clear gs1)
   | (go_at_call 136;refine (HN.out _).mono ?_;rintro e w2 ⟨rfl,hb2⟩;have hq2 := hb1.trans (hb2.mono hb1.size);have hz2 := hb2.size;have hy2 := hq2.size;obtain ⟨gx2,hc2,hf2⟩ := qa6 hb2 (qa0 Gs1.out) Gs1.out;have hlt2 := qa0 gx2;have hc20 := hc2 0))
  go_ret
  exact ⟨rfl,hq2.alloc hy2 _⟩
end Go.Proofs.YthcbkhfmdginiaaGreat
