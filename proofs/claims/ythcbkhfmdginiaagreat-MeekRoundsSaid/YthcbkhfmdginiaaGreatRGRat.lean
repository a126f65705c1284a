/- Texts of one claim,put together: RatA,RatB,RatC,RatD,RatE. -/
import Derived.Test.YthcbkhfmdginiaaGreatRGNatR
import Derived.Deep.RegionLaw
import Derived.Deep.RegionHeld3

namespace Go.Proofs.YthcbkhfmdginiaaGreat
section
open Go Go.RowKit Go.Shelf Limb

theorem RU.avoid {S : Nat → Prop} {w : World} {v : Value} {xs : List Int} {g : Nat} {cs : Array Value} {e : TypeId} (h : RU S w v xs) (hg : w.heap[g]? = some (.cells cs e (0,0))) (hne : ∀ (i : Nat) (x : Int),cs[i]? ≠ some (Value.int .u32 x)) : RU (fun b => b ≠ g) w v xs := by
 have h0 := h
 obtain ⟨a,cap,cells,rfl,h1,h2,h3,h4⟩ := h
 refine ⟨a,cap,cells,rfl,h1,h2,h3,?_⟩
 rcases h4 with h4 | ⟨b,off,rfl,hS,hc⟩
 ·exact .inl h4
 ·rcases Nat.eq_zero_or_pos xs.length with hz | hz
  ·exact .inl (List.eq_nil_of_length_eq_zero hz)
  ·refine .inr ⟨b, off, rfl, ?_, hc⟩
   rintro rfl
   obtain ⟨b',off',e1,-,-,hc2,-,-⟩ := RU.at h0 (i := 0) hz
   simp only [Option.some.injEq,Addr.mk.injEq,and_true] at e1
   obtain ⟨rfl,rfl⟩ := e1
   simp only [World.cell?,hg] at hc2
   exact hne _ _ (by simpa using hc2)
theorem bss_ne (x : Bool) (u v : Value) (hu : ∀ k y,u ≠ Value.int k y) (hv : ∀ k y,v ≠ Value.int k y) : ∀ (i : Nat) (y : Int),(#[.bool x,u,v] : Array Value)[i]? ≠ some (Value.int .u32 y) := fun i y h => by
 match i with
 | 0 => simp at h
 | 1 => simp at h;exact hu _ _ h
 | 2 => simp at h;exact hv _ _ h
 | i + 3 => simp at h
theorem NumAt.kept {w w' : World} {v : Value} {n g : Nat} {cs : Array Value} {e : TypeId} (h : NumAt w v n) (hg : w.heap[g]? = some (.cells cs e (0,0))) (hne : ∀ (i : Nat) (x : Int),cs[i]? ≠ some (Value.int .u32 x)) (hs : Same (fun b => b ≠ g) w w') : NumAt w' v n :=
 NumAt.of ((h.ru.avoid hg hne).same hs)
def sideOf (neg : Bool) (n : Nat) : Int := if n = 0 then 0 else if neg then -1 else 1
set_option maxHeartbeats 1000000 in
theorem ratSize (n : Nat) (w : World) (hn : n < 9223372036854775808) :
  Calls Tryz.prog 104 #[.int .i64 n] w fun e w' => e = .returned (.int .u64 n) ∧ w = w' := by
 have h0 : ¬ (n : Int) < 0 := by omega
 have h1 := qa5 (x := (n : Int)) (by omega) (by omega)
 go_enter Tryz.func104,Tryz.ntmps104
 go_wp2
 go_ret
 exact ⟨rfl,rfl⟩
set_option maxHeartbeats 2000000 in
theorem ratLowestF (neg : Bool) (vn vd : Value) (n d : Nat) (w : World) (hn : NumAt w vn n) (hd : NumAt w vd d) (hln : (lim n).length ≤ 96) (hld : (lim d).length ≤ 96) (hd0 : 0 < d) :
  Calls Tryz.prog 164 #[.bool neg,vn,vd] w fun e w' => ∃ a c a' c',e = .returned (.agg #[.bool (neg && decide (n ≠ 0)),.slice a (lim (n / Nat.gcd n d)).length c,.slice a' (lim (d / Nat.gcd n d)).length c']) ∧ RU (From w.heap.size) w' (.slice a (lim (n / Nat.gcd n d)).length c) (lim (n / Nat.gcd n d)) ∧ RU (From w.heap.size) w' (.slice a' (lim (d / Nat.gcd n d)).length c') (lim (d / Nat.gcd n d)) ∧ Below w.heap.size w w' := by
 obtain ⟨Z,hZ⟩ : ∃ Z,Z = Obj.cells #[.bool false,.slice none 0 0,.slice none 0 0] 56 (0,0) := ⟨_,rfl⟩
 have hb0 := qa1 w Z
 have hgA : (w.alloc Z).heap[w.heap.size]? = some (.cells #[.bool false,.slice none 0 0,.slice none 0 0] 56 (0,0)) := by rw [hZ];exact qa8 w _
 have hg0 : 0 < Nat.gcd n d := Nat.gcd_pos_of_pos_right n hd0
 have hgl : (lim (Nat.gcd n d)).length ≤ 96 := lim_le_of (Nat.gcd_le_right n hd0) hld
 have hn' := hn.same hb0
 have hd' := hd.same hb0
 have hG := natGcd vn vd n d (w.alloc Z) hn' hd' hln hld
 have hD := fun W v (hW : Below (w.alloc Z).heap.size (w.alloc Z) W) (hv : NumAt W v (Nat.gcd n d)) => natDivF vn v n (Nat.gcd n d) W (hn'.same hW) hv hln hgl hg0
 have hD2 := fun W v (hW : Below (w.alloc Z).heap.size (w.alloc Z) W) (hv : NumAt W v (Nat.gcd n d)) => natDivF vd v d (Nat.gcd n d) W (hd'.same hW) hv hld hgl hg0
 obtain ⟨gg,hgg⟩ : ∃ gg,Nat.gcd n d = gg := ⟨_,rfl⟩
 obtain ⟨q1,hq1⟩ : ∃ q1,n / gg = q1 := ⟨_,rfl⟩
 obtain ⟨q2,hq2⟩ : ∃ q2,d / gg = q2 := ⟨_,rfl⟩
 rw [hgg] at hG hD hD2 ⊢
 rw [hq1] at hD ⊢
 rw [hq2] at hD2 ⊢
 have hqn : (n ≠ 0) ↔ (lim q1).length ≠ 0 := by
  rw [← hgg] at hq1
  constructor
  ·intro h e
   have h2 := qad.1 (List.eq_nil_of_length_eq_zero e)
   have h3 := Nat.div_mul_cancel (Nat.gcd_dvd_left n d)
   rw [hq1,h2,Nat.zero_mul] at h3
   exact h h3.symm
  ·intro h e
   rw [e,Nat.zero_div] at hq1
   rw [← hq1,qaj] at h
   exact h rfl
 have hfin : ∀ (w3 : World) a c a' c',Below (w.alloc Z).heap.size (w.alloc Z) w3 → RU (From (w.heap.size + 1)) w3 (.slice a (lim q1).length c) (lim q1) → RU (From (w.heap.size + 1)) w3 (.slice a' (lim q2).length c') (lim q2) → ∀ w',Same (fun b => b ≠ w.heap.size) w3 w' → RU (From w.heap.size) w' (.slice a (lim q1).length c) (lim q1) ∧ RU (From w.heap.size) w' (.slice a' (lim q2).length c') (lim q2) := fun w3 a c a' c' hW k1 k2 w' hs => by
  have h1 : ∀ b,From (w.heap.size + 1) b → b ≠ w.heap.size := fun b hb e => by simp only [From] at hb;omega
  have h2 : ∀ b,From (w.heap.size + 1) b → From w.heap.size b := fun b hb => Nat.le_trans (Nat.le_succ _) hb
  exact ⟨RU.mono h2 (k1.same (hs.mono h1)),RU.mono h2 (k2.same (hs.mono h1))⟩
 have hcell : ∀ w3,Below (w.alloc Z).heap.size (w.alloc Z) w3 → (∀ i,w3.cell? ⟨w.heap.size,i,none⟩ = (#[.bool false,.slice none 0 0,.slice none 0 0] : Array Value)[i]?) ∧ (∀ i,w3.frozen? ⟨w.heap.size,i,none⟩ = false) := fun w3 hW => by
  obtain ⟨-,g2,g3⟩ := qa6 hW (by simp) hgA
  exact ⟨g2,g3⟩
 have hbz : ∀ w3,Below (w.alloc Z).heap.size (w.alloc Z) w3 → Below w.heap.size w w3 ∧ w.heap.size + 1 ≤ w3.heap.size := fun w3 hW => ⟨hb0.trans (hW.mono (by simp)),by have := hW.size;simp at this;omega⟩
 obtain ⟨a1,c1,rfl⟩ := hn.shape
 obtain ⟨a2,c2,rfl⟩ := hd.shape
 obtain ⟨L1,hL1⟩ : ∃ L1,(lim n).length = L1 := ⟨_,rfl⟩
 obtain ⟨L2,hL2⟩ : ∃ L2,(lim d).length = L2 := ⟨_,rfl⟩
 rw [hL1] at hG hD ⊢
 rw [hL2] at hG hD2 ⊢
 have HG := Lib.hid hG;have HD := Lib.hid hD;have HD2 := Lib.hid hD2;have HF := Lib.hid hfin;have HC := Lib.hid hcell;have HZ := Lib.hid hbz
 have hfinal : ∀ (nb : Bool) (l : Nat),l = (lim q1).length → nb = (neg && decide (l ≠ 0)) → nb = (neg && decide (n ≠ 0)) := fun nb l e h => by
  rw [h,e];congr 1;exact decide_eq_decide.2 hqn.symm
 have HH := Lib.hid hfinal
 clear hG hD hD2 hfin hcell hbz hfinal hqn hq1 hq2 hgg hn hd hn' hd' hL1 hL2 hln hld hb0 hgA hg0 hgl
 subst hZ
 cases neg
 ·have hr : (false && decide (n ≠ 0)) = false := rfl
  rw [hr]
  clear hr HH
  go_enter Tryz.func164,Tryz.ntmps164
  go_wp2_with (first
   | (go_at_call 167;refine HG.out.mono ?_;rintro e w1 ⟨a3,c3,rfl,hN3,hbb1⟩;have HN3 := Lib.hid hN3;have hz1 := hbb1.size;clear hN3)
   | (go_at_call 178;refine (HD2.out _ _ hbb2 HN3'.out).mono ?_;rintro e w3 ⟨a6,c6,a7,c7,rfl,hN6,hN7,hb3⟩;have hbb3 := hbb2.trans (hb3.mono hz2);have HN4 := Lib.hid (HN4'.out.below hb3);have HN6 := Lib.hid (RU.mono (T := From (w.heap.size + 1)) (fun b hb => Nat.le_trans (HZ.out _ hbb2).2 hb) hN6);obtain ⟨hc3,hf3⟩ := HC.out _ hbb3;clear hN6 hN7)
   | (go_at_call 178;refine (HD.out _ _ hbb1 HN3.out).mono ?_;rintro e w2 ⟨a4,c4,a5,c5,rfl,hN4,hN5,hb2⟩;have hbb2 := hbb1.trans (hb2.mono hz1);have hz2 := hbb2.size;have HN3' := Lib.hid (HN3.out.same hb2);have HN4' := Lib.hid (RU.mono (T := From (w.heap.size + 1)) (fun b hb => Nat.le_trans (HZ.out _ hbb1).2 hb) hN4);clear hN4 hN5))
  refine bodyPost_ret (v := .agg #[.bool false,.slice a4 (lim q1).length c4,.slice a6 (lim q2).length c6]) (by simp [results,Tryz.results164,go_sem,hc3]) rfl ⟨a4,c4,a6,c6,rfl,(HF.out _ _ _ _ _ hbb3 HN4.out HN6.out _ ?_).1,(HF.out _ _ _ _ _ hbb3 HN4.out HN6.out _ ?_).2,?_⟩
  ·exact (((Same.refl _ _).setCell (by simp) _).setCell (by simp) _).setCell (by simp) _
  ·exact (((Same.refl _ _).setCell (by simp) _).setCell (by simp) _).setCell (by simp) _
  ·exact ((((HZ.out _ hbb3).1.setCell (p := ⟨w.heap.size,0,none⟩) (Nat.le_refl _) _).setCell (p := ⟨w.heap.size,1,none⟩) (Nat.le_refl _) _).setCell (p := ⟨w.heap.size,2,none⟩) (Nat.le_refl _) _)
 ·by_cases h0 : (lim q1).length = 0
  ·have hr : (true && decide (n ≠ 0)) = false := (HH.out false _ rfl (by simp [h0])).symm
   rw [hr]
   have h0' : ¬ (0 : Int) < ((lim q1).length : Int) := by omega
   have H0 := Lib.hid h0
   clear hr HH h0
   go_enter Tryz.func164,Tryz.ntmps164
   go_wp2_with (first
   | (go_at_call 167;refine HG.out.mono ?_;rintro e w1 ⟨a3,c3,rfl,hN3,hbb1⟩;have HN3 := Lib.hid hN3;have hz1 := hbb1.size;clear hN3)
   | (go_at_call 178;refine (HD2.out _ _ hbb2 HN3'.out).mono ?_;rintro e w3 ⟨a6,c6,a7,c7,rfl,hN6,hN7,hb3⟩;have hbb3 := hbb2.trans (hb3.mono hz2);have HN4 := Lib.hid (HN4'.out.below hb3);have HN6 := Lib.hid (RU.mono (T := From (w.heap.size + 1)) (fun b hb => Nat.le_trans (HZ.out _ hbb2).2 hb) hN6);obtain ⟨hc3,hf3⟩ := HC.out _ hbb3;clear hN6 hN7)
   | (go_at_call 178;refine (HD.out _ _ hbb1 HN3.out).mono ?_;rintro e w2 ⟨a4,c4,a5,c5,rfl,hN4,hN5,hb2⟩;have hbb2 := hbb1.trans (hb2.mono hz1);have hz2 := hbb2.size;have HN3' := Lib.hid (HN3.out.same hb2);have HN4' := Lib.hid (RU.mono (T := From (w.heap.size + 1)) (fun b hb => Nat.le_trans (HZ.out _ hbb1).2 hb) hN4);clear hN4 hN5))
   refine bodyPost_ret (v := .agg #[.bool false,.slice a4 (lim q1).length c4,.slice a6 (lim q2).length c6]) (by simp [results,Tryz.results164,go_sem,hc3,H0.out]) rfl ⟨a4,c4,a6,c6,rfl,(HF.out _ _ _ _ _ hbb3 HN4.out HN6.out _ ?_).1,(HF.out _ _ _ _ _ hbb3 HN4.out HN6.out _ ?_).2,?_⟩
   ·exact (((Same.refl _ _).setCell (by simp) _).setCell (by simp) _).setCell (by simp) _
   ·exact (((Same.refl _ _).setCell (by simp) _).setCell (by simp) _).setCell (by simp) _
   ·exact ((((HZ.out _ hbb3).1.setCell (p := ⟨w.heap.size,0,none⟩) (Nat.le_refl _) _).setCell (p := ⟨w.heap.size,1,none⟩) (Nat.le_refl _) _).setCell (p := ⟨w.heap.size,2,none⟩) (Nat.le_refl _) _)
  ·have hr : (true && decide (n ≠ 0)) = true := (HH.out true _ rfl (by simp [h0])).symm
   rw [hr]
   have h0' : (0 : Int) < ((lim q1).length : Int) := by omega
   have h0'' : 0 < (lim q1).length := by omega
   have h1 : ¬ lim q1 = [] := fun e => h0 (by rw [e];rfl)
   clear hr HH h0
   go_enter Tryz.func164,Tryz.ntmps164
   go_wp2_with (first
   | (go_at_call 167;refine HG.out.mono ?_;rintro e w1 ⟨a3,c3,rfl,hN3,hbb1⟩;have HN3 := Lib.hid hN3;have hz1 := hbb1.size;clear hN3)
   | (go_at_call 178;refine (HD2.out _ _ hbb2 HN3'.out).mono ?_;rintro e w3 ⟨a6,c6,a7,c7,rfl,hN6,hN7,hb3⟩;have hbb3 := hbb2.trans (hb3.mono hz2);have HN4 := Lib.hid (HN4'.out.below hb3);have HN6 := Lib.hid (RU.mono (T := From (w.heap.size + 1)) (fun b hb => Nat.le_trans (HZ.out _ hbb2).2 hb) hN6);obtain ⟨hc3,hf3⟩ := HC.out _ hbb3;clear hN6 hN7)
   | (go_at_call 178;refine (HD.out _ _ hbb1 HN3.out).mono ?_;rintro e w2 ⟨a4,c4,a5,c5,rfl,hN4,hN5,hb2⟩;have hbb2 := hbb1.trans (hb2.mono hz1);have hz2 := hbb2.size;have HN3' := Lib.hid (HN3.out.same hb2);have HN4' := Lib.hid (RU.mono (T := From (w.heap.size + 1)) (fun b hb => Nat.le_trans (HZ.out _ hbb1).2 hb) hN4);clear hN4 hN5))
   refine bodyPost_ret (v := .agg #[.bool true,.slice a4 (lim q1).length c4,.slice a6 (lim q2).length c6]) (by simp [results,Tryz.results164,go_sem,hc3]) rfl ⟨a4,c4,a6,c6,rfl,(HF.out _ _ _ _ _ hbb3 HN4.out HN6.out _ ?_).1,(HF.out _ _ _ _ _ hbb3 HN4.out HN6.out _ ?_).2,?_⟩
   ·exact (((Same.refl _ _).setCell (by simp) _).setCell (by simp) _).setCell (by simp) _
   ·exact (((Same.refl _ _).setCell (by simp) _).setCell (by simp) _).setCell (by simp) _
   ·exact ((((HZ.out _ hbb3).1.setCell (p := ⟨w.heap.size,0,none⟩) (Nat.le_refl _) _).setCell (p := ⟨w.heap.size,1,none⟩) (Nat.le_refl _) _).setCell (p := ⟨w.heap.size,2,none⟩) (Nat.le_refl _) _)
theorem ratLowest (neg : Bool) (vn vd : Value) (n d : Nat) (w : World) (hn : NumAt w vn n) (hd : NumAt w vd d) (hln : (lim n).length ≤ 96) (hld : (lim d).length ≤ 96) (hd0 : 0 < d) :
  Calls Tryz.prog 164 #[.bool neg,vn,vd] w fun e w' => ∃ a c a' c',e = .returned (.agg #[.bool (neg && decide (n ≠ 0)),.slice a (lim (n / Nat.gcd n d)).length c,.slice a' (lim (d / Nat.gcd n d)).length c']) ∧ NumAt w' (.slice a (lim (n / Nat.gcd n d)).length c) (n / Nat.gcd n d) ∧ NumAt w' (.slice a' (lim (d / Nat.gcd n d)).length c') (d / Nat.gcd n d) ∧ Below w.heap.size w w' :=
 (ratLowestF neg vn vd n d w hn hd hln hld hd0).mono fun _ _ ⟨a,c,a',c',he,h1,h2,hb⟩ => ⟨a,c,a',c',he,NumAt.of h1,NumAt.of h2,hb⟩
set_option maxHeartbeats 2000000 in
theorem ratOfF (n d : Nat) (w : World) (hn : n < 9223372036854775808) (hd : d < 9223372036854775808) (hd0 : 0 < d) :
  Calls Tryz.prog 200 #[.int .i64 n,.int .i64 d] w fun e w' => ∃ a c a' c',e = .returned (.tuple #[.agg #[.bool false,.slice a (lim (n / Nat.gcd n d)).length c,.slice a' (lim (d / Nat.gcd n d)).length c'],.int .i64 0]) ∧ RU (From w.heap.size) w' (.slice a (lim (n / Nat.gcd n d)).length c) (lim (n / Nat.gcd n d)) ∧ RU (From w.heap.size) w' (.slice a' (lim (d / Nat.gcd n d)).length c') (lim (d / Nat.gcd n d)) ∧ Below w.heap.size w w' := by
 have hln : (lim n).length ≤ 96 := Nat.le_trans (qah (k := 2) (by rw [qal,qal,pw_zero];omega)) (by omega)
 have hld : (lim d).length ≤ 96 := Nat.le_trans (qah (k := 2) (by rw [qal,qal,pw_zero];omega)) (by omega)
 obtain ⟨Z,hZ⟩ : ∃ Z,Z = Obj.cells #[.bool false,.slice none 0 0,.slice none 0 0] 56 (0,0) := ⟨_,rfl⟩
 have hb0 := qa1 w Z
 have hgA : (w.alloc Z).heap[w.heap.size]? = some (.cells #[.bool false,.slice none 0 0,.slice none 0 0] 56 (0,0)) := by rw [hZ];exact qa8 w _
 have hSn := fun W => ratSize n W hn
 have hSd := fun W => ratSize d W hd
 have hOn := fun W => natOf n W (by omega)
 have hOd := fun W => natOf d W (by omega)
 have hL := fun W u v (h1 : NumAt W u n) (h2 : NumAt W v d) => ratLowestF false u v n d W h1 h2 hln hld hd0
 have hnd : ¬ (n : Int) < 0 := by omega
 have hdd : ¬ (d : Int) < 0 := by omega
 have hd1 : ((d : Int) == 0) = false := beq_eq_false_iff_ne.2 (by omega)
 have hd2 : ¬ d = 0 := by omega
 obtain ⟨q1,hq1⟩ : ∃ q1,n / Nat.gcd n d = q1 := ⟨_,rfl⟩
 obtain ⟨q2,hq2⟩ : ∃ q2,d / Nat.gcd n d = q2 := ⟨_,rfl⟩
 simp only [Bool.false_and] at hL
 rw [hq1,hq2] at hL ⊢
 have hfin : ∀ (w3 : World) a c a' c',Below (w.alloc Z).heap.size (w.alloc Z) w3 → RU (From (w.heap.size + 1)) w3 (.slice a (lim q1).length c) (lim q1) → RU (From (w.heap.size + 1)) w3 (.slice a' (lim q2).length c') (lim q2) → ∀ w',Same (fun b => b ≠ w.heap.size) w3 w' → RU (From w.heap.size) w' (.slice a (lim q1).length c) (lim q1) ∧ RU (From w.heap.size) w' (.slice a' (lim q2).length c') (lim q2) := fun w3 a c a' c' hW k1 k2 w' hs => by
  have h1 : ∀ b,From (w.heap.size + 1) b → b ≠ w.heap.size := fun b hb e => by simp only [From] at hb;omega
  have h2 : ∀ b,From (w.heap.size + 1) b → From w.heap.size b := fun b hb => Nat.le_trans (Nat.le_succ _) hb
  exact ⟨RU.mono h2 (k1.same (hs.mono h1)),RU.mono h2 (k2.same (hs.mono h1))⟩
 have hcell : ∀ w3,Below (w.alloc Z).heap.size (w.alloc Z) w3 → (∀ i,w3.cell? ⟨w.heap.size,i,none⟩ = (#[.bool false,.slice none 0 0,.slice none 0 0] : Array Value)[i]?) ∧ (∀ i,w3.frozen? ⟨w.heap.size,i,none⟩ = false) := fun w3 hW => by
  obtain ⟨-,g2,g3⟩ := qa6 hW (by simp) hgA
  exact ⟨g2,g3⟩
 have hbz : ∀ w3,Below (w.alloc Z).heap.size (w.alloc Z) w3 → Below w.heap.size w w3 := fun w3 hW => hb0.trans (hW.mono (by simp))
 have HSn := Lib.hid hSn;have HSd := Lib.hid hSd;have HOn := Lib.hid hOn;have HOd := Lib.hid hOd;have HL := Lib.hid hL;have HF := Lib.hid hfin;have HC := Lib.hid hcell;have HZ := Lib.hid hbz
 clear hSn hSd hOn hOd hL hfin hcell hbz hq1 hq2 hb0 hgA hln hld
 subst hZ
 go_enter Tryz.func200,Tryz.ntmps200
 go_wp2_with (first
  | (go_at_call 104;have := hbb1;refine (HSd.out _).mono ?_;rintro e w0 ⟨rfl,rfl⟩)
  | (go_at_call 104;refine (HSn.out _).mono ?_;rintro e w0 ⟨rfl,rfl⟩)
  | (go_at_call 103;have := hbb1;refine (HOd.out _).mono ?_;rintro e w2 ⟨a4,c4,rfl,hN4,hb2⟩;have hbb2 := hbb1.trans (hb2.mono hz1);have hz2 := hbb2.size;have HN3' := Lib.hid (HN3.out.same hb2);have HN4 := Lib.hid hN4;clear hN4)
  | (go_at_call 103;refine (HOn.out _).mono ?_;rintro e w1 ⟨a3,c3,rfl,hN3,hbb1⟩;have hz1 := hbb1.size;have HN3 := Lib.hid hN3;clear hN3)
  | (go_at_call 164;refine (HL.out _ _ _ HN3'.out HN4.out).mono ?_;rintro e w3 ⟨a5,c5,a6,c6,rfl,hN5,hN6,hb3⟩;have hbb3 := hbb2.trans (hb3.mono hz2);have hm : ∀ b,From w2.heap.size b → From (w.heap.size + 1) b := (fun b hb => Nat.le_trans (by have := hbb2.size;simpa using this) hb);have HN5 := Lib.hid (RU.mono hm hN5);have HN6 := Lib.hid (RU.mono hm hN6);clear hm;obtain ⟨hc3,hf3⟩ := HC.out _ hbb3;clear hN5 hN6))
 refine bodyPost_ret (v := .tuple #[.agg #[.bool false,.slice a5 (lim q1).length c5,.slice a6 (lim q2).length c6],.int .i64 0]) (by simp [results,Tryz.results200,go_sem,hc3]) rfl ⟨a5,c5,a6,c6,rfl,(HF.out _ _ _ _ _ hbb3 HN5.out HN6.out _ ?_).1,(HF.out _ _ _ _ _ hbb3 HN5.out HN6.out _ ?_).2,?_⟩
 ·exact (((Same.refl _ _).setCell (by simp) _).setCell (by simp) _).setCell (by simp) _
 ·exact (((Same.refl _ _).setCell (by simp) _).setCell (by simp) _).setCell (by simp) _
 ·exact ((((HZ.out _ hbb3).setCell (p := ⟨w.heap.size,0,none⟩) (Nat.le_refl _) _).setCell (p := ⟨w.heap.size,1,none⟩) (Nat.le_refl _) _).setCell (p := ⟨w.heap.size,2,none⟩) (Nat.le_refl _) _)
set_option maxHeartbeats 1000000 in
theorem r4Side (neg : Bool) (a1 : Option Addr) (l1 c1 : Nat) (vd : Value) (w : World) :
  Calls Tryz.prog 115 #[.agg #[.bool neg,.slice a1 l1 c1,vd]] w fun e w' => e = .returned (.int .i64 (sideOf neg l1)) ∧ Below w.heap.size w w' := by
 have hb0 := qa1 w (.cells #[.bool neg,.slice a1 l1 c1,vd] 56)
 by_cases h0 : l1 = 0
 ·subst h0
  go_enter Tryz.func115,Tryz.ntmps115
  go_wp2
  go_ret
  exact ⟨rfl,hb0⟩
 ·have h1 : ((l1 : Int) == 0) = false := beq_eq_false_iff_ne.2 (by omega)
  have h2 : ¬ l1 = 0 := h0
  cases neg
  ·have hr : sideOf false l1 = 1 := by simp [sideOf, h0]
   have Hr := Lib.hid hr;clear hr
   go_enter Tryz.func115,Tryz.ntmps115
   go_wp2
   go_ret
   exact ⟨qac Hr.out.symm,hb0⟩
  ·have hr : sideOf true l1 = -1 := by simp [sideOf, h0]
   have Hr := Lib.hid hr;clear hr
   go_enter Tryz.func115,Tryz.ntmps115
   go_wp2
   go_ret
   exact ⟨qac Hr.out.symm,hb0⟩
set_option maxHeartbeats 1000000 in
theorem r4Size (n : Nat) (w : World) (hn : n < 9223372036854775808) :
  Calls Tryz.prog 216 #[.int .i64 n] w fun e w' => e = .returned (.int .u64 n) ∧ w = w' := by
 have h0 : ¬ (n : Int) < 0 := by omega
 have h1 := qa5 (x := (n : Int)) (by omega) (by omega)
 go_enter Tryz.func216,Tryz.ntmps216
 go_wp2
 go_ret
 exact ⟨rfl,rfl⟩
set_option maxHeartbeats 2000000 in
theorem r4LowestF (neg : Bool) (vn vd : Value) (n d : Nat) (w : World) (hn : NumAt w vn n) (hd : NumAt w vd d) (hln : (lim n).length ≤ 96) (hld : (lim d).length ≤ 96) (hd0 : 0 < d) :
  Calls Tryz.prog 113 #[.bool neg,vn,vd] w fun e w' => ∃ a c a' c',e = .returned (.agg #[.bool (neg && decide (n ≠ 0)),.slice a (lim (n / Nat.gcd n d)).length c,.slice a' (lim (d / Nat.gcd n d)).length c']) ∧ RU (From w.heap.size) w' (.slice a (lim (n / Nat.gcd n d)).length c) (lim (n / Nat.gcd n d)) ∧ RU (From w.heap.size) w' (.slice a' (lim (d / Nat.gcd n d)).length c') (lim (d / Nat.gcd n d)) ∧ Below w.heap.size w w' := by
 obtain ⟨Z,hZ⟩ : ∃ Z,Z = Obj.cells #[.bool false,.slice none 0 0,.slice none 0 0] 56 (0,0) := ⟨_,rfl⟩
 have hb0 := qa1 w Z
 have hgA : (w.alloc Z).heap[w.heap.size]? = some (.cells #[.bool false,.slice none 0 0,.slice none 0 0] 56 (0,0)) := by rw [hZ];exact qa8 w _
 have hg0 : 0 < Nat.gcd n d := Nat.gcd_pos_of_pos_right n hd0
 have hgl : (lim (Nat.gcd n d)).length ≤ 96 := lim_le_of (Nat.gcd_le_right n hd0) hld
 have hn' := hn.same hb0
 have hd' := hd.same hb0
 have hG := r3Gcd vn vd n d (w.alloc Z) hn' hd' hln hld
 have hD := fun W v (hW : Below (w.alloc Z).heap.size (w.alloc Z) W) (hv : NumAt W v (Nat.gcd n d)) => r3DivF vn v n (Nat.gcd n d) W (hn'.same hW) hv hln hgl hg0
 have hD2 := fun W v (hW : Below (w.alloc Z).heap.size (w.alloc Z) W) (hv : NumAt W v (Nat.gcd n d)) => r3DivF vd v d (Nat.gcd n d) W (hd'.same hW) hv hld hgl hg0
 obtain ⟨gg,hgg⟩ : ∃ gg,Nat.gcd n d = gg := ⟨_,rfl⟩
 obtain ⟨q1,hq1⟩ : ∃ q1,n / gg = q1 := ⟨_,rfl⟩
 obtain ⟨q2,hq2⟩ : ∃ q2,d / gg = q2 := ⟨_,rfl⟩
 rw [hgg] at hG hD hD2 ⊢
 rw [hq1] at hD ⊢
 rw [hq2] at hD2 ⊢
 have hqn : (n ≠ 0) ↔ (lim q1).length ≠ 0 := by
  rw [← hgg] at hq1
  constructor
  ·intro h e
   have h2 := qad.1 (List.eq_nil_of_length_eq_zero e)
   have h3 := Nat.div_mul_cancel (Nat.gcd_dvd_left n d)
   rw [hq1,h2,Nat.zero_mul] at h3
   exact h h3.symm
  ·intro h e
   rw [e,Nat.zero_div] at hq1
   rw [← hq1,qaj] at h
   exact h rfl
 have hfin : ∀ (w3 : World) a c a' c',Below (w.alloc Z).heap.size (w.alloc Z) w3 → RU (From (w.heap.size + 1)) w3 (.slice a (lim q1).length c) (lim q1) → RU (From (w.heap.size + 1)) w3 (.slice a' (lim q2).length c') (lim q2) → ∀ w',Same (fun b => b ≠ w.heap.size) w3 w' → RU (From w.heap.size) w' (.slice a (lim q1).length c) (lim q1) ∧ RU (From w.heap.size) w' (.slice a' (lim q2).length c') (lim q2) := fun w3 a c a' c' hW k1 k2 w' hs => by
  have h1 : ∀ b,From (w.heap.size + 1) b → b ≠ w.heap.size := fun b hb e => by simp only [From] at hb;omega
  have h2 : ∀ b,From (w.heap.size + 1) b → From w.heap.size b := fun b hb => Nat.le_trans (Nat.le_succ _) hb
  exact ⟨RU.mono h2 (k1.same (hs.mono h1)),RU.mono h2 (k2.same (hs.mono h1))⟩
 have hcell : ∀ w3,Below (w.alloc Z).heap.size (w.alloc Z) w3 → (∀ i,w3.cell? ⟨w.heap.size,i,none⟩ = (#[.bool false,.slice none 0 0,.slice none 0 0] : Array Value)[i]?) ∧ (∀ i,w3.frozen? ⟨w.heap.size,i,none⟩ = false) := fun w3 hW => by
  obtain ⟨-,g2,g3⟩ := qa6 hW (by simp) hgA
  exact ⟨g2,g3⟩
 have hbz : ∀ w3,Below (w.alloc Z).heap.size (w.alloc Z) w3 → Below w.heap.size w w3 ∧ w.heap.size + 1 ≤ w3.heap.size := fun w3 hW => ⟨hb0.trans (hW.mono (by simp)),by have := hW.size;simp at this;omega⟩
 obtain ⟨a1,c1,rfl⟩ := hn.shape
 obtain ⟨a2,c2,rfl⟩ := hd.shape
 obtain ⟨L1,hL1⟩ : ∃ L1,(lim n).length = L1 := ⟨_,rfl⟩
 obtain ⟨L2,hL2⟩ : ∃ L2,(lim d).length = L2 := ⟨_,rfl⟩
 rw [hL1] at hG hD ⊢
 rw [hL2] at hG hD2 ⊢
 have HG := Lib.hid hG;have HD := Lib.hid hD;have HD2 := Lib.hid hD2;have HF := Lib.hid hfin;have HC := Lib.hid hcell;have HZ := Lib.hid hbz
 have hfinal : ∀ (nb : Bool) (l : Nat),l = (lim q1).length → nb = (neg && decide (l ≠ 0)) → nb = (neg && decide (n ≠ 0)) := fun nb l e h => by
  rw [h,e];congr 1;exact decide_eq_decide.2 hqn.symm
 have HH := Lib.hid hfinal
 clear hG hD hD2 hfin hcell hbz hfinal hqn hq1 hq2 hgg hn hd hn' hd' hL1 hL2 hln hld hb0 hgA hg0 hgl
 subst hZ
 cases neg
 ·have hr : (false && decide (n ≠ 0)) = false := rfl
  rw [hr]
  clear hr HH
  go_enter Tryz.func113,Tryz.ntmps113
  go_wp2_with (first
   | (go_at_call 174;refine HG.out.mono ?_;rintro e w1 ⟨a3,c3,rfl,hN3,hbb1⟩;have HN3 := Lib.hid hN3;have hz1 := hbb1.size;clear hN3)
   | (go_at_call 175;refine (HD2.out _ _ hbb2 HN3'.out).mono ?_;rintro e w3 ⟨a6,c6,a7,c7,rfl,hN6,hN7,hb3⟩;have hbb3 := hbb2.trans (hb3.mono hz2);have HN4 := Lib.hid (HN4'.out.below hb3);have HN6 := Lib.hid (RU.mono (T := From (w.heap.size + 1)) (fun b hb => Nat.le_trans (HZ.out _ hbb2).2 hb) hN6);obtain ⟨hc3,hf3⟩ := HC.out _ hbb3;clear hN6 hN7)
   | (go_at_call 175;refine (HD.out _ _ hbb1 HN3.out).mono ?_;rintro e w2 ⟨a4,c4,a5,c5,rfl,hN4,hN5,hb2⟩;have hbb2 := hbb1.trans (hb2.mono hz1);have hz2 := hbb2.size;have HN3' := Lib.hid (HN3.out.same hb2);have HN4' := Lib.hid (RU.mono (T := From (w.heap.size + 1)) (fun b hb => Nat.le_trans (HZ.out _ hbb1).2 hb) hN4);clear hN4 hN5))
  refine bodyPost_ret (v := .agg #[.bool false,.slice a4 (lim q1).length c4,.slice a6 (lim q2).length c6]) (by simp [results,Tryz.results113,go_sem,hc3]) rfl ⟨a4,c4,a6,c6,rfl,(HF.out _ _ _ _ _ hbb3 HN4.out HN6.out _ ?_).1,(HF.out _ _ _ _ _ hbb3 HN4.out HN6.out _ ?_).2,?_⟩
  ·exact (((Same.refl _ _).setCell (by simp) _).setCell (by simp) _).setCell (by simp) _
  ·exact (((Same.refl _ _).setCell (by simp) _).setCell (by simp) _).setCell (by simp) _
  ·exact ((((HZ.out _ hbb3).1.setCell (p := ⟨w.heap.size,0,none⟩) (Nat.le_refl _) _).setCell (p := ⟨w.heap.size,1,none⟩) (Nat.le_refl _) _).setCell (p := ⟨w.heap.size,2,none⟩) (Nat.le_refl _) _)
 ·by_cases h0 : (lim q1).length = 0
  ·have hr : (true && decide (n ≠ 0)) = false := (HH.out false _ rfl (by simp [h0])).symm
   rw [hr]
   have h0' : ¬ (0 : Int) < ((lim q1).length : Int) := by omega
   have H0 := Lib.hid h0
   clear hr HH h0
   go_enter Tryz.func113,Tryz.ntmps113
   go_wp2_with (first
   | (go_at_call 174;refine HG.out.mono ?_;rintro e w1 ⟨a3,c3,rfl,hN3,hbb1⟩;have HN3 := Lib.hid hN3;have hz1 := hbb1.size;clear hN3)
   | (go_at_call 175;refine (HD2.out _ _ hbb2 HN3'.out).mono ?_;rintro e w3 ⟨a6,c6,a7,c7,rfl,hN6,hN7,hb3⟩;have hbb3 := hbb2.trans (hb3.mono hz2);have HN4 := Lib.hid (HN4'.out.below hb3);have HN6 := Lib.hid (RU.mono (T := From (w.heap.size + 1)) (fun b hb => Nat.le_trans (HZ.out _ hbb2).2 hb) hN6);obtain ⟨hc3,hf3⟩ := HC.out _ hbb3;clear hN6 hN7)
   | (go_at_call 175;refine (HD.out _ _ hbb1 HN3.out).mono ?_;rintro e w2 ⟨a4,c4,a5,c5,rfl,hN4,hN5,hb2⟩;have hbb2 := hbb1.trans (hb2.mono hz1);have hz2 := hbb2.size;have HN3' := Lib.hid (HN3.out.same hb2);have HN4' := Lib.hid (RU.mono (T := From (w.heap.size + 1)) (fun b hb => Nat.le_trans (HZ.out _ hbb1).2 hb) hN4);clear hN4 hN5))
   refine bodyPost_ret (v := .agg #[.bool false,.slice a4 (lim q1).length c4,.slice a6 (lim q2).length c6]) (by simp [results,Tryz.results113,go_sem,hc3,H0.out]) rfl ⟨a4,c4,a6,c6,rfl,(HF.out _ _ _ _ _ hbb3 HN4.out HN6.out _ ?_).1,(HF.out _ _ _ _ _ hbb3 HN4.out HN6.out _ ?_).2,?_⟩
   ·exact (((Same.refl _ _).setCell (by simp) _).setCell (by simp) _).setCell (by simp) _
   ·exact (((Same.refl _ _).setCell (by simp) _).setCell (by simp) _).setCell (by simp) _
   ·exact ((((HZ.out _ hbb3).1.setCell (p := ⟨w.heap.size,0,none⟩) (Nat.le_refl _) _).setCell (p := ⟨w.heap.size,1,none⟩) (Nat.le_refl _) _).setCell (p := ⟨w.heap.size,2,none⟩) (Nat.le_refl _) _)
  ·have hr : (true && decide (n ≠ 0)) = true := (HH.out true _ rfl (by simp [h0])).symm
   rw [hr]
   have h0' : (0 : Int) < ((lim q1).length : Int) := by omega
   have h0'' : 0 < (lim q1).length := by omega
   have h1 : ¬ lim q1 = [] := fun e => h0 (by rw [e];rfl)
   clear hr HH h0
   go_enter Tryz.func113,Tryz.ntmps113
   go_wp2_with (first
   | (go_at_call 174;refine HG.out.mono ?_;rintro e w1 ⟨a3,c3,rfl,hN3,hbb1⟩;have HN3 := Lib.hid hN3;have hz1 := hbb1.size;clear hN3)
   | (go_at_call 175;refine (HD2.out _ _ hbb2 HN3'.out).mono ?_;rintro e w3 ⟨a6,c6,a7,c7,rfl,hN6,hN7,hb3⟩;have hbb3 := hbb2.trans (hb3.mono hz2);have HN4 := Lib.hid (HN4'.out.below hb3);have HN6 := Lib.hid (RU.mono (T := From (w.heap.size + 1)) (fun b hb => Nat.le_trans (HZ.out _ hbb2).2 hb) hN6);obtain ⟨hc3,hf3⟩ := HC.out _ hbb3;clear hN6 hN7)
   | (go_at_call 175;refine (HD.out _ _ hbb1 HN3.out).mono ?_;rintro e w2 ⟨a4,c4,a5,c5,rfl,hN4,hN5,hb2⟩;have hbb2 := hbb1.trans (hb2.mono hz1);have hz2 := hbb2.size;have HN3' := Lib.hid (HN3.out.same hb2);have HN4' := Lib.hid (RU.mono (T := From (w.heap.size + 1)) (fun b hb => Nat.le_trans (HZ.out _ hbb1).2 hb) hN4);clear hN4 hN5))
   refine bodyPost_ret (v := .agg #[.bool true,.slice a4 (lim q1).length c4,.slice a6 (lim q2).length c6]) (by simp [results,Tryz.results113,go_sem,hc3]) rfl ⟨a4,c4,a6,c6,rfl,(HF.out _ _ _ _ _ hbb3 HN4.out HN6.out _ ?_).1,(HF.out _ _ _ _ _ hbb3 HN4.out HN6.out _ ?_).2,?_⟩
   ·exact (((Same.refl _ _).setCell (by simp) _).setCell (by simp) _).setCell (by simp) _
   ·exact (((Same.refl _ _).setCell (by simp) _).setCell (by simp) _).setCell (by simp) _
   ·exact ((((HZ.out _ hbb3).1.setCell (p := ⟨w.heap.size,0,none⟩) (Nat.le_refl _) _).setCell (p := ⟨w.heap.size,1,none⟩) (Nat.le_refl _) _).setCell (p := ⟨w.heap.size,2,none⟩) (Nat.le_refl _) _)
set_option maxHeartbeats 2000000 in
theorem r4OfF (n d : Nat) (w : World) (hn : n < 9223372036854775808) (hd : d < 9223372036854775808) (hd0 : 0 < d) :
  Calls Tryz.prog 187 #[.int .i64 n,.int .i64 d] w fun e w' => ∃ a c a' c',e = .returned (.tuple #[.agg #[.bool false,.slice a (lim (n / Nat.gcd n d)).length c,.slice a' (lim (d / Nat.gcd n d)).length c'],.int .i64 0]) ∧ RU (From w.heap.size) w' (.slice a (lim (n / Nat.gcd n d)).length c) (lim (n / Nat.gcd n d)) ∧ RU (From w.heap.size) w' (.slice a' (lim (d / Nat.gcd n d)).length c') (lim (d / Nat.gcd n d)) ∧ Below w.heap.size w w' := by
 have hln : (lim n).length ≤ 96 := Nat.le_trans (qah (k := 2) (by rw [qal,qal,pw_zero];omega)) (by omega)
 have hld : (lim d).length ≤ 96 := Nat.le_trans (qah (k := 2) (by rw [qal,qal,pw_zero];omega)) (by omega)
 obtain ⟨Z,hZ⟩ : ∃ Z,Z = Obj.cells #[.bool false,.slice none 0 0,.slice none 0 0] 56 (0,0) := ⟨_,rfl⟩
 have hb0 := qa1 w Z
 have hgA : (w.alloc Z).heap[w.heap.size]? = some (.cells #[.bool false,.slice none 0 0,.slice none 0 0] 56 (0,0)) := by rw [hZ];exact qa8 w _
 have hSn := fun W => r4Size n W hn
 have hSd := fun W => r4Size d W hd
 have hOn := fun W => r3Of n W (by omega)
 have hOd := fun W => r3Of d W (by omega)
 have hL := fun W u v (h1 : NumAt W u n) (h2 : NumAt W v d) => r4LowestF false u v n d W h1 h2 hln hld hd0
 have hnd : ¬ (n : Int) < 0 := by omega
 have hdd : ¬ (d : Int) < 0 := by omega
 have hd1 : ((d : Int) == 0) = false := beq_eq_false_iff_ne.2 (by omega)
 have hd2 : ¬ d = 0 := by omega
 obtain ⟨q1,hq1⟩ : ∃ q1,n / Nat.gcd n d = q1 := ⟨_,rfl⟩
 obtain ⟨q2,hq2⟩ : ∃ q2,d / Nat.gcd n d = q2 := ⟨_,rfl⟩
 simp only [Bool.false_and] at hL
 rw [hq1,hq2] at hL ⊢
 have hfin : ∀ (w3 : World) a c a' c',Below (w.alloc Z).heap.size (w.alloc Z) w3 → RU (From (w.heap.size + 1)) w3 (.slice a (lim q1).length c) (lim q1) → RU (From (w.heap.size + 1)) w3 (.slice a' (lim q2).length c') (lim q2) → ∀ w',Same (fun b => b ≠ w.heap.size) w3 w' → RU (From w.heap.size) w' (.slice a (lim q1).length c) (lim q1) ∧ RU (From w.heap.size) w' (.slice a' (lim q2).length c') (lim q2) := fun w3 a c a' c' hW k1 k2 w' hs => by
  have h1 : ∀ b,From (w.heap.size + 1) b → b ≠ w.heap.size := fun b hb e => by simp only [From] at hb;omega
  have h2 : ∀ b,From (w.heap.size + 1) b → From w.heap.size b := fun b hb => Nat.le_trans (Nat.le_succ _) hb
  exact ⟨RU.mono h2 (k1.same (hs.mono h1)),RU.mono h2 (k2.same (hs.mono h1))⟩
 have hcell : ∀ w3,Below (w.alloc Z).heap.size (w.alloc Z) w3 → (∀ i,w3.cell? ⟨w.heap.size,i,none⟩ = (#[.bool false,.slice none 0 0,.slice none 0 0] : Array Value)[i]?) ∧ (∀ i,w3.frozen? ⟨w.heap.size,i,none⟩ = false) := fun w3 hW => by
  obtain ⟨-,g2,g3⟩ := qa6 hW (by simp) hgA
  exact ⟨g2,g3⟩
 have hbz : ∀ w3,Below (w.alloc Z).heap.size (w.alloc Z) w3 → Below w.heap.size w w3 := fun w3 hW => hb0.trans (hW.mono (by simp))
 have HSn := Lib.hid hSn;have HSd := Lib.hid hSd;have HOn := Lib.hid hOn;have HOd := Lib.hid hOd;have HL := Lib.hid hL;have HF := Lib.hid hfin;have HC := Lib.hid hcell;have HZ := Lib.hid hbz
 clear hSn hSd hOn hOd hL hfin hcell hbz hq1 hq2 hb0 hgA hln hld
 subst hZ
 go_enter Tryz.func187,Tryz.ntmps187
 go_wp2_with (first
  | (go_at_call 216;have := hbb1;refine (HSd.out _).mono ?_;rintro e w0 ⟨rfl,rfl⟩)
  | (go_at_call 216;refine (HSn.out _).mono ?_;rintro e w0 ⟨rfl,rfl⟩)
  | (go_at_call 191;have := hbb1;refine (HOd.out _).mono ?_;rintro e w2 ⟨a4,c4,rfl,hN4,hb2⟩;have hbb2 := hbb1.trans (hb2.mono hz1);have hz2 := hbb2.size;have HN3' := Lib.hid (HN3.out.same hb2);have HN4 := Lib.hid hN4;clear hN4)
  | (go_at_call 191;refine (HOn.out _).mono ?_;rintro e w1 ⟨a3,c3,rfl,hN3,hbb1⟩;have hz1 := hbb1.size;have HN3 := Lib.hid hN3;clear hN3)
  | (go_at_call 113;refine (HL.out _ _ _ HN3'.out HN4.out).mono ?_;rintro e w3 ⟨a5,c5,a6,c6,rfl,hN5,hN6,hb3⟩;have hbb3 := hbb2.trans (hb3.mono hz2);have hm : ∀ b,From w2.heap.size b → From (w.heap.size + 1) b := (fun b hb => Nat.le_trans (by have := hbb2.size;simpa using this) hb);have HN5 := Lib.hid (RU.mono hm hN5);have HN6 := Lib.hid (RU.mono hm hN6);clear hm;obtain ⟨hc3,hf3⟩ := HC.out _ hbb3;clear hN5 hN6))
 refine bodyPost_ret (v := .tuple #[.agg #[.bool false,.slice a5 (lim q1).length c5,.slice a6 (lim q2).length c6],.int .i64 0]) (by simp [results,Tryz.results187,go_sem,hc3]) rfl ⟨a5,c5,a6,c6,rfl,(HF.out _ _ _ _ _ hbb3 HN5.out HN6.out _ ?_).1,(HF.out _ _ _ _ _ hbb3 HN5.out HN6.out _ ?_).2,?_⟩
 ·exact (((Same.refl _ _).setCell (by simp) _).setCell (by simp) _).setCell (by simp) _
 ·exact (((Same.refl _ _).setCell (by simp) _).setCell (by simp) _).setCell (by simp) _
 ·exact ((((HZ.out _ hbb3).setCell (p := ⟨w.heap.size,0,none⟩) (Nat.le_refl _) _).setCell (p := ⟨w.heap.size,1,none⟩) (Nat.le_refl _) _).setCell (p := ⟨w.heap.size,2,none⟩) (Nat.le_refl _) _)
end

section
open Go Go.RowKit Go.Shelf Limb

def ratChk (neg : Bool) (xs ys : List Int) : Int := if chkN xs ≠ 0 ∨ chkN ys ≠ 0 ∨ ys = [] ∨ (neg = true ∧ xs = []) ∨ Nat.gcd (val xs).toNat (val ys).toNat ≠ 1 then 8 else 0
theorem ratChk_ok {neg : Bool} {m n : Nat} (hm : (lim m).length ≤ 96) (hn : (lim n).length ≤ 96) (hn0 : n ≠ 0) {g : Nat} (hg : Nat.gcd m n = g) (hneg : ¬ (neg = true ∧ m = 0)) : ratChk neg (lim m) (lim n) = if g = 1 then 0 else 8 := by
 unfold ratChk
 rw [qb1 hm,qb1 hn,qap,qap,Int.toNat_natCast,Int.toNat_natCast]
 have h1 : lim n ≠ [] := fun e => hn0 (qad.1 e)
 have h2 : ¬ (neg = true ∧ lim m = []) := fun h => hneg ⟨h.1,qad.1 h.2⟩
 simp only [ne_eq,not_true_eq_false,h1,h2,false_or,hg]
 by_cases h : g = 1
 ·simp [h]
 ·simp [h]
theorem eqL_one (g : Nat) : eqL eqInt (lim g) [1] = decide (g = 1) := by
 by_cases h : g = 1
 ·subst h
  rw [lim_small (by omega) (by omega),decide_eq_true rfl]
  exact eqL_int.2 rfl
 ·rw [decide_eq_false h]
  cases hb : eqL eqInt (lim g) [1]
  ·rfl
  ·exfalso
   have e := congrArg val (eqL_int.1 hb)
   rw [qap,val_single] at e
   omega
set_option maxHeartbeats 1000000 in
theorem ratOne (w : World) : Calls Tryz.prog 105 #[] w fun e w' => ∃ g,e = .returned (.slice (some ⟨g,0,none⟩) 1 1) ∧ RU Any w' (.slice (some ⟨g,0,none⟩) 1 1) [1] ∧ Below w.heap.size w w' := by
 have h1 := NumAt.one w
 have hb0 := qa1 w (.cells #[.int .u32 1] 177)
 have H1 := Lib.hid h1;clear h1
 go_enter Tryz.func105,Tryz.ntmps105
 go_wp2
 go_ret
 exact ⟨_,rfl,H1.out,hb0⟩
set_option maxHeartbeats 2000000 in
theorem ratCheck (S T : Nat → Prop) (neg : Bool) (vn vd : Value) (xs ys : List Int) (w : World) (hx : RU S w vn xs) (hy : RU T w vd ys) :
  Calls Tryz.prog 106 #[.agg #[.bool neg,vn,vd]] w fun e w' => e = .returned (.int .i64 (ratChk neg xs ys)) ∧ Below w.heap.size w w' := by
 obtain ⟨a1,c1,rfl,-,-⟩ := RSl.shape hx
 obtain ⟨a2,c2,rfl,-,-⟩ := RSl.shape hy
 have hlx := RU.lim hx
 have hly := RU.lim hy
 obtain ⟨W0,hW0⟩ : ∃ W0,W0 = w.alloc (.cells #[.bool neg,.slice a1 xs.length c1,.slice a2 ys.length c2] 56) := ⟨_,rfl⟩
 have hb0 : Below w.heap.size w W0 := by rw [hW0];exact qa1 w _
 have hx' := hx.below hb0
 have hy' := hy.below hb0
 have hK1 := natCheck S _ xs W0 hx'
 have hK2 := natCheck T _ ys W0 hy'
 obtain ⟨C1,hC1⟩ : ∃ C1,chkN xs = C1 := ⟨_,rfl⟩
 obtain ⟨C2,hC2⟩ : ∃ C2,chkN ys = C2 := ⟨_,rfl⟩
 rw [hC1] at hK1
 rw [hC2] at hK2
 have HCK := Lib.hid hK1;have HCK2 := Lib.hid hK2
 clear hK1 hK2
 by_cases h1 : C1 = 0
 case neg =>
  have hr : ratChk neg xs ys = 8 := by unfold ratChk;rw [if_pos (.inl (by rw [hC1];exact h1))]
  have hcb : (C1 != 0) = true := bne_iff_ne.2 h1
  skip
  have Hr := Lib.hid hr
  clear hr hx hy hx' hy' hC1 hC2 hlx hly h1
  subst hW0
  go_enter Tryz.func106,Tryz.ntmps106
  go_wp2_with (first
   | (go_at_call_of 166 (a1);refine HCK.out.mono ?_;rintro e w1 ⟨rfl,rfl⟩)
   | (go_at_call_of 166 (a2);refine HCK2.out.mono ?_;rintro e w1 ⟨rfl,rfl⟩))
  go_ret
  exact ⟨qac Hr.out.symm,hb0⟩
 subst h1
 by_cases h2 : C2 = 0
 case neg =>
  have hr : ratChk neg xs ys = 8 := by unfold ratChk;rw [if_pos (.inr (.inl (by rw [hC2];exact h2)))]
  have hcb : (C2 != 0) = true := bne_iff_ne.2 h2
  skip
  have Hr := Lib.hid hr
  clear hr hx hy hx' hy' hC1 hC2 hlx hly h2
  subst hW0
  go_enter Tryz.func106,Tryz.ntmps106
  go_wp2_with (first
   | (go_at_call_of 166 (a1);refine HCK.out.mono ?_;rintro e w1 ⟨rfl,rfl⟩)
   | (go_at_call_of 166 (a2);refine HCK2.out.mono ?_;rintro e w1 ⟨rfl,rfl⟩))
  go_ret
  exact ⟨qac Hr.out.symm,hb0⟩
 subst h2
 obtain ⟨m,rfl,hm⟩ := lim_of_chk hlx hC1
 obtain ⟨n,rfl,hn⟩ := lim_of_chk hly hC2
 skip
 by_cases hn0 : n = 0
 ·subst hn0
  have hr : ratChk neg (lim m) (lim 0) = 8 := by unfold ratChk;rw [if_pos (.inr (.inr (.inl qaj)))]
  have Hr := Lib.hid hr
  have hl0 : (lim 0).length = 0 := by rw [qaj];rfl
  clear hr hx hy hx' hy' hC1 hC2 hlx hly
  rw [hl0] at hW0 ⊢
  try rw [hl0] at HCK
  try rw [hl0] at HCK2
  clear hl0
  subst hW0
  go_enter Tryz.func106,Tryz.ntmps106
  go_wp2_with (first
   | (go_at_call_of 166 (a1);refine HCK.out.mono ?_;rintro e w1 ⟨rfl,rfl⟩)
   | (go_at_call_of 166 (a2);refine HCK2.out.mono ?_;rintro e w1 ⟨rfl,rfl⟩))
  go_ret
  exact ⟨qac Hr.out.symm,hb0⟩
 have hnl : ((lim n).length : Int) ≠ 0 := fun e => hn0 (qad.1 (List.eq_nil_of_length_eq_zero (by omega)))
 have hnb : (((lim n).length : Int) == 0) = false := beq_eq_false_iff_ne.2 hnl
 have hn1 : ¬ lim n = [] := fun e => hn0 (qad.1 e)
 have hG := natGcd _ _ m n W0 (NumAt.of hx') (NumAt.of hy') hm hn
 have hSm := fun W u v (k1 : RU Any W u (lim (Nat.gcd m n))) (k2 : RU Any W v [1]) => natSame Any Any u v _ _ W k1 k2
 simp only [eqL_one] at hSm
 obtain ⟨gg,hgg⟩ : ∃ gg,Nat.gcd m n = gg := ⟨_,rfl⟩
 rw [hgg] at hG hSm
 have hres : ¬ (neg = true ∧ m = 0) → ratChk neg (lim m) (lim n) = if gg = 1 then 0 else 8 := fun h => ratChk_ok hm hn hn0 hgg h
 have HG := Lib.hid hG
 by_cases hm0 : m = 0
 ·subst hm0
  have hl0 : (lim 0).length = 0 := by rw [qaj];rfl
  cases neg
  ·have hres2 := hres (by simp)
   have Hres := Lib.hid hres2
   clear hres hres2 hx hy hx' hy' hC1 hC2 hlx hly hgg hG
   rw [hl0] at hW0 HCK HG ⊢
   clear hl0
   subst hW0
   by_cases hg1 : gg = 1
   ·subst hg1
    have hd : decide (1 = 1) = true := rfl
    rw [hd] at hSm
    have HS := Lib.hid hSm
    clear hSm hd
    go_enter Tryz.func106,Tryz.ntmps106
    go_wp2_with (first
     | (go_at_call_of 166 (a1);refine HCK.out.mono ?_;rintro e w1 ⟨rfl,rfl⟩)
     | (go_at_call_of 166 (a2);refine HCK2.out.mono ?_;rintro e w1 ⟨rfl,rfl⟩)
     | (go_at_call 167;refine HG.out.mono ?_;rintro e w1 ⟨a3,c3,rfl,hN3,hb1⟩;have HN3 := Lib.hid hN3;have hz1 := hb1.size;simp at hz1;clear hN3)
     | (go_at_call 105;refine (ratOne _).mono ?_;rintro e w2 ⟨g,rfl,hN4,hb2⟩;have HN3' := Lib.hid (HN3.out.same hb2).ru;have HN4 := Lib.hid hN4;have hz2 := hb2.size;clear hN4)
     | (go_at_call 168;refine (HS.out _ _ _ HN3'.out HN4.out).mono ?_;rintro e w3 ⟨rfl,hb3⟩))
    go_ret
    exact ⟨qac (by rw [Hres.out];rfl),hb0.trans ((hb1.mono (by simp)).trans ((hb2.mono (by omega)).trans (hb3.mono (by omega))))⟩
   ·have hd : decide (gg = 1) = false := decide_eq_false hg1
    rw [hd] at hSm
    rw [if_neg hg1] at Hres
    have HS := Lib.hid hSm
    clear hSm hd hg1
    go_enter Tryz.func106,Tryz.ntmps106
    go_wp2_with (first
     | (go_at_call_of 166 (a1);refine HCK.out.mono ?_;rintro e w1 ⟨rfl,rfl⟩)
     | (go_at_call_of 166 (a2);refine HCK2.out.mono ?_;rintro e w1 ⟨rfl,rfl⟩)
     | (go_at_call 167;refine HG.out.mono ?_;rintro e w1 ⟨a3,c3,rfl,hN3,hb1⟩;have HN3 := Lib.hid hN3;have hz1 := hb1.size;simp at hz1;clear hN3)
     | (go_at_call 105;refine (ratOne _).mono ?_;rintro e w2 ⟨g,rfl,hN4,hb2⟩;have HN3' := Lib.hid (HN3.out.same hb2).ru;have HN4 := Lib.hid hN4;have hz2 := hb2.size;clear hN4)
     | (go_at_call 168;refine (HS.out _ _ _ HN3'.out HN4.out).mono ?_;rintro e w3 ⟨rfl,hb3⟩))
    go_ret
    exact ⟨qac Hres.out.symm,hb0.trans ((hb1.mono (by simp)).trans ((hb2.mono (by omega)).trans (hb3.mono (by omega))))⟩
  ·have hr : ratChk true (lim 0) (lim n) = 8 := by unfold ratChk; rw [if_pos (.inr (.inr (.inr (.inl ⟨rfl, qaj⟩))))]
   have Hr := Lib.hid hr
   clear hr hres hx hy hx' hy' hC1 hC2 hlx hly hgg hG hSm HG
   rw [hl0] at hW0 HCK ⊢
   clear hl0
   subst hW0
   go_enter Tryz.func106,Tryz.ntmps106
   go_wp2_with (first
   | (go_at_call_of 166 (a1);refine HCK.out.mono ?_;rintro e w1 ⟨rfl,rfl⟩)
   | (go_at_call_of 166 (a2);refine HCK2.out.mono ?_;rintro e w1 ⟨rfl,rfl⟩))
   go_ret
   exact ⟨qac Hr.out.symm,hb0⟩
 ·have hml : ((lim m).length : Int) ≠ 0 := fun e => hm0 (qad.1 (List.eq_nil_of_length_eq_zero (by omega)))
  have hmb : (((lim m).length : Int) == 0) = false := beq_eq_false_iff_ne.2 hml
  have hm1 : ¬ lim m = [] := fun e => hm0 (qad.1 e)
  have hres2 := hres (fun h => hm0 h.2)
  have Hres := Lib.hid hres2
  clear hres hres2 hx hy hx' hy' hC1 hC2 hlx hly hgg hG
  cases neg
  ·subst hW0
   by_cases hg1 : gg = 1
   ·subst hg1
    have hd : decide (1 = 1) = true := rfl
    rw [hd] at hSm
    have HS := Lib.hid hSm
    clear hSm hd
    go_enter Tryz.func106,Tryz.ntmps106
    go_wp2_with (first
     | (go_at_call_of 166 (a1);refine HCK.out.mono ?_;rintro e w1 ⟨rfl,rfl⟩)
     | (go_at_call_of 166 (a2);refine HCK2.out.mono ?_;rintro e w1 ⟨rfl,rfl⟩)
     | (go_at_call 167;refine HG.out.mono ?_;rintro e w1 ⟨a3,c3,rfl,hN3,hb1⟩;have HN3 := Lib.hid hN3;have hz1 := hb1.size;simp at hz1;clear hN3)
     | (go_at_call 105;refine (ratOne _).mono ?_;rintro e w2 ⟨g,rfl,hN4,hb2⟩;have HN3' := Lib.hid (HN3.out.same hb2).ru;have HN4 := Lib.hid hN4;have hz2 := hb2.size;clear hN4)
     | (go_at_call 168;refine (HS.out _ _ _ HN3'.out HN4.out).mono ?_;rintro e w3 ⟨rfl,hb3⟩))
    go_ret
    exact ⟨qac (by rw [Hres.out];rfl),hb0.trans ((hb1.mono (by simp)).trans ((hb2.mono (by omega)).trans (hb3.mono (by omega))))⟩
   ·have hd : decide (gg = 1) = false := decide_eq_false hg1
    rw [hd] at hSm
    rw [if_neg hg1] at Hres
    have HS := Lib.hid hSm
    clear hSm hd hg1
    go_enter Tryz.func106,Tryz.ntmps106
    go_wp2_with (first
     | (go_at_call_of 166 (a1);refine HCK.out.mono ?_;rintro e w1 ⟨rfl,rfl⟩)
     | (go_at_call_of 166 (a2);refine HCK2.out.mono ?_;rintro e w1 ⟨rfl,rfl⟩)
     | (go_at_call 167;refine HG.out.mono ?_;rintro e w1 ⟨a3,c3,rfl,hN3,hb1⟩;have HN3 := Lib.hid hN3;have hz1 := hb1.size;simp at hz1;clear hN3)
     | (go_at_call 105;refine (ratOne _).mono ?_;rintro e w2 ⟨g,rfl,hN4,hb2⟩;have HN3' := Lib.hid (HN3.out.same hb2).ru;have HN4 := Lib.hid hN4;have hz2 := hb2.size;clear hN4)
     | (go_at_call 168;refine (HS.out _ _ _ HN3'.out HN4.out).mono ?_;rintro e w3 ⟨rfl,hb3⟩))
    go_ret
    exact ⟨qac Hres.out.symm,hb0.trans ((hb1.mono (by simp)).trans ((hb2.mono (by omega)).trans (hb3.mono (by omega))))⟩
  ·subst hW0
   by_cases hg1 : gg = 1
   ·subst hg1
    have hd : decide (1 = 1) = true := rfl
    rw [hd] at hSm
    have HS := Lib.hid hSm
    clear hSm hd
    go_enter Tryz.func106,Tryz.ntmps106
    go_wp2_with (first
     | (go_at_call_of 166 (a1);refine HCK.out.mono ?_;rintro e w1 ⟨rfl,rfl⟩)
     | (go_at_call_of 166 (a2);refine HCK2.out.mono ?_;rintro e w1 ⟨rfl,rfl⟩)
     | (go_at_call 167;refine HG.out.mono ?_;rintro e w1 ⟨a3,c3,rfl,hN3,hb1⟩;have HN3 := Lib.hid hN3;have hz1 := hb1.size;simp at hz1;clear hN3)
     | (go_at_call 105;refine (ratOne _).mono ?_;rintro e w2 ⟨g,rfl,hN4,hb2⟩;have HN3' := Lib.hid (HN3.out.same hb2).ru;have HN4 := Lib.hid hN4;have hz2 := hb2.size;clear hN4)
     | (go_at_call 168;refine (HS.out _ _ _ HN3'.out HN4.out).mono ?_;rintro e w3 ⟨rfl,hb3⟩))
    go_ret
    exact ⟨qac (by rw [Hres.out];rfl),hb0.trans ((hb1.mono (by simp)).trans ((hb2.mono (by omega)).trans (hb3.mono (by omega))))⟩
   ·have hd : decide (gg = 1) = false := decide_eq_false hg1
    rw [hd] at hSm
    rw [if_neg hg1] at Hres
    have HS := Lib.hid hSm
    clear hSm hd hg1
    go_enter Tryz.func106,Tryz.ntmps106
    go_wp2_with (first
     | (go_at_call_of 166 (a1);refine HCK.out.mono ?_;rintro e w1 ⟨rfl,rfl⟩)
     | (go_at_call_of 166 (a2);refine HCK2.out.mono ?_;rintro e w1 ⟨rfl,rfl⟩)
     | (go_at_call 167;refine HG.out.mono ?_;rintro e w1 ⟨a3,c3,rfl,hN3,hb1⟩;have HN3 := Lib.hid hN3;have hz1 := hb1.size;simp at hz1;clear hN3)
     | (go_at_call 105;refine (ratOne _).mono ?_;rintro e w2 ⟨g,rfl,hN4,hb2⟩;have HN3' := Lib.hid (HN3.out.same hb2).ru;have HN4 := Lib.hid hN4;have hz2 := hb2.size;clear hN4)
     | (go_at_call 168;refine (HS.out _ _ _ HN3'.out HN4.out).mono ?_;rintro e w3 ⟨rfl,hb3⟩))
    go_ret
    exact ⟨qac Hres.out.symm,hb0.trans ((hb1.mono (by simp)).trans ((hb2.mono (by omega)).trans (hb3.mono (by omega))))⟩
set_option maxHeartbeats 2000000 in
theorem r4Check (S T : Nat → Prop) (neg : Bool) (vn vd : Value) (xs ys : List Int) (w : World) (hx : RU S w vn xs) (hy : RU T w vd ys) :
  Calls Tryz.prog 171 #[.agg #[.bool neg,vn,vd]] w fun e w' => e = .returned (.int .i64 (ratChk neg xs ys)) ∧ Below w.heap.size w w' := by
 obtain ⟨a1,c1,rfl,-,-⟩ := RSl.shape hx
 obtain ⟨a2,c2,rfl,-,-⟩ := RSl.shape hy
 have hlx := RU.lim hx
 have hly := RU.lim hy
 obtain ⟨W0,hW0⟩ : ∃ W0,W0 = w.alloc (.cells #[.bool neg,.slice a1 xs.length c1,.slice a2 ys.length c2] 56) := ⟨_,rfl⟩
 have hb0 : Below w.heap.size w W0 := by rw [hW0];exact qa1 w _
 have hx' := hx.below hb0
 have hy' := hy.below hb0
 have hK := r3Both S T _ _ xs ys W0 hx' hy'
 obtain ⟨C1,hC1⟩ : ∃ C1,chkN xs = C1 := ⟨_,rfl⟩
 obtain ⟨C2,hC2⟩ : ∃ C2,chkN ys = C2 := ⟨_,rfl⟩
 have hCC : chkNN xs ys = if C1 ≠ 0 then C1 else C2 := by rw [chkNN,hC1,hC2]
 rw [hCC] at hK
 clear hCC
 by_cases h1 : C1 = 0
 case neg =>
  have hr : ratChk neg xs ys = 8 := by unfold ratChk;rw [if_pos (.inl (by rw [hC1];exact h1))]
  have hcb : (C1 != 0) = true := bne_iff_ne.2 h1
  rw [if_pos h1] at hK
  have HCK := Lib.hid hK
  clear hK
  have Hr := Lib.hid hr
  clear hr hx hy hx' hy' hC1 hC2 hlx hly h1
  subst hW0
  go_enter Tryz.func171,Tryz.ntmps171
  go_wp2_with (go_at_call 172;refine HCK.out.mono ?_;rintro e w1 ⟨rfl,rfl⟩)
  go_ret
  exact ⟨qac Hr.out.symm,hb0⟩
 subst h1
 by_cases h2 : C2 = 0
 case neg =>
  have hr : ratChk neg xs ys = 8 := by unfold ratChk;rw [if_pos (.inr (.inl (by rw [hC2];exact h2)))]
  have hcb : (C2 != 0) = true := bne_iff_ne.2 h2
  simp only [ne_eq,not_true_eq_false,if_false] at hK
  have HCK := Lib.hid hK
  clear hK
  have Hr := Lib.hid hr
  clear hr hx hy hx' hy' hC1 hC2 hlx hly h2
  subst hW0
  go_enter Tryz.func171,Tryz.ntmps171
  go_wp2_with (go_at_call 172;refine HCK.out.mono ?_;rintro e w1 ⟨rfl,rfl⟩)
  go_ret
  exact ⟨qac Hr.out.symm,hb0⟩
 subst h2
 obtain ⟨m,rfl,hm⟩ := lim_of_chk hlx hC1
 obtain ⟨n,rfl,hn⟩ := lim_of_chk hly hC2
 simp only [ne_eq,not_true_eq_false,if_false] at hK
 have HCK := Lib.hid hK
 clear hK
 by_cases hn0 : n = 0
 ·subst hn0
  have hr : ratChk neg (lim m) (lim 0) = 8 := by unfold ratChk;rw [if_pos (.inr (.inr (.inl qaj)))]
  have Hr := Lib.hid hr
  have hl0 : (lim 0).length = 0 := by rw [qaj];rfl
  clear hr hx hy hx' hy' hC1 hC2 hlx hly
  rw [hl0] at hW0 ⊢
  try rw [hl0] at HCK
  try rw [hl0] at HCK2
  clear hl0
  subst hW0
  go_enter Tryz.func171,Tryz.ntmps171
  go_wp2_with (go_at_call 172;refine HCK.out.mono ?_;rintro e w1 ⟨rfl,rfl⟩)
  go_ret
  exact ⟨qac Hr.out.symm,hb0⟩
 have hnl : ((lim n).length : Int) ≠ 0 := fun e => hn0 (qad.1 (List.eq_nil_of_length_eq_zero (by omega)))
 have hnb : (((lim n).length : Int) == 0) = false := beq_eq_false_iff_ne.2 hnl
 have hn1 : ¬ lim n = [] := fun e => hn0 (qad.1 e)
 have hG := r3Gcd _ _ m n W0 (NumAt.of hx') (NumAt.of hy') hm hn
 have hSm := fun W u v (k1 : RU Any W u (lim (Nat.gcd m n))) (k2 : RU Any W v [1]) => r3Same Any Any u v _ _ W k1 k2
 simp only [eqL_one] at hSm
 obtain ⟨gg,hgg⟩ : ∃ gg,Nat.gcd m n = gg := ⟨_,rfl⟩
 rw [hgg] at hG hSm
 have hres : ¬ (neg = true ∧ m = 0) → ratChk neg (lim m) (lim n) = if gg = 1 then 0 else 8 := fun h => ratChk_ok hm hn hn0 hgg h
 have HG := Lib.hid hG
 by_cases hm0 : m = 0
 ·subst hm0
  have hl0 : (lim 0).length = 0 := by rw [qaj];rfl
  cases neg
  ·have hres2 := hres (by simp)
   have Hres := Lib.hid hres2
   clear hres hres2 hx hy hx' hy' hC1 hC2 hlx hly hgg hG
   rw [hl0] at hW0 HCK HG ⊢
   clear hl0
   subst hW0
   by_cases hg1 : gg = 1
   ·subst hg1
    have hd : decide (1 = 1) = true := rfl
    rw [hd] at hSm
    have HS := Lib.hid hSm
    clear hSm hd
    go_enter Tryz.func171,Tryz.ntmps171
    go_wp2_with (first
     | (go_at_call 172;refine HCK.out.mono ?_;rintro e w1 ⟨rfl,rfl⟩)
     | (go_at_call 174;refine HG.out.mono ?_;rintro e w1 ⟨a3,c3,rfl,hN3,hb1⟩;have HN3 := Lib.hid hN3;have hz1 := hb1.size;simp at hz1;clear hN3)
     | (go_at_call 118;refine (HS.out _ _ _ (HN3.out.same (qa1 w1 _)).ru (NumAt.one w1)).mono ?_;rintro e w3 ⟨rfl,hb3⟩))
    go_ret
    exact ⟨qac (by rw [Hres.out];rfl),hb0.trans ((hb1.mono (by simp)).trans (((qa1 w1 _).mono (by omega)).trans (hb3.mono (by simp;omega))))⟩
   ·have hd : decide (gg = 1) = false := decide_eq_false hg1
    rw [hd] at hSm
    rw [if_neg hg1] at Hres
    have HS := Lib.hid hSm
    clear hSm hd hg1
    go_enter Tryz.func171,Tryz.ntmps171
    go_wp2_with (first
     | (go_at_call 172;refine HCK.out.mono ?_;rintro e w1 ⟨rfl,rfl⟩)
     | (go_at_call 174;refine HG.out.mono ?_;rintro e w1 ⟨a3,c3,rfl,hN3,hb1⟩;have HN3 := Lib.hid hN3;have hz1 := hb1.size;simp at hz1;clear hN3)
     | (go_at_call 118;refine (HS.out _ _ _ (HN3.out.same (qa1 w1 _)).ru (NumAt.one w1)).mono ?_;rintro e w3 ⟨rfl,hb3⟩))
    go_ret
    exact ⟨qac Hres.out.symm,hb0.trans ((hb1.mono (by simp)).trans (((qa1 w1 _).mono (by omega)).trans (hb3.mono (by simp;omega))))⟩
  ·have hr : ratChk true (lim 0) (lim n) = 8 := by unfold ratChk; rw [if_pos (.inr (.inr (.inr (.inl ⟨rfl, qaj⟩))))]
   have Hr := Lib.hid hr
   clear hr hres hx hy hx' hy' hC1 hC2 hlx hly hgg hG hSm HG
   rw [hl0] at hW0 HCK ⊢
   clear hl0
   subst hW0
   go_enter Tryz.func171,Tryz.ntmps171
   go_wp2_with (go_at_call 172;refine HCK.out.mono ?_;rintro e w1 ⟨rfl,rfl⟩)
   go_ret
   exact ⟨qac Hr.out.symm,hb0⟩
 ·have hml : ((lim m).length : Int) ≠ 0 := fun e => hm0 (qad.1 (List.eq_nil_of_length_eq_zero (by omega)))
  have hmb : (((lim m).length : Int) == 0) = false := beq_eq_false_iff_ne.2 hml
  have hm1 : ¬ lim m = [] := fun e => hm0 (qad.1 e)
  have hres2 := hres (fun h => hm0 h.2)
  have Hres := Lib.hid hres2
  clear hres hres2 hx hy hx' hy' hC1 hC2 hlx hly hgg hG
  cases neg
  ·subst hW0
   by_cases hg1 : gg = 1
   ·subst hg1
    have hd : decide (1 = 1) = true := rfl
    rw [hd] at hSm
    have HS := Lib.hid hSm
    clear hSm hd
    go_enter Tryz.func171,Tryz.ntmps171
    go_wp2_with (first
     | (go_at_call 172;refine HCK.out.mono ?_;rintro e w1 ⟨rfl,rfl⟩)
     | (go_at_call 174;refine HG.out.mono ?_;rintro e w1 ⟨a3,c3,rfl,hN3,hb1⟩;have HN3 := Lib.hid hN3;have hz1 := hb1.size;simp at hz1;clear hN3)
     | (go_at_call 118;refine (HS.out _ _ _ (HN3.out.same (qa1 w1 _)).ru (NumAt.one w1)).mono ?_;rintro e w3 ⟨rfl,hb3⟩))
    go_ret
    exact ⟨qac (by rw [Hres.out];rfl),hb0.trans ((hb1.mono (by simp)).trans (((qa1 w1 _).mono (by omega)).trans (hb3.mono (by simp;omega))))⟩
   ·have hd : decide (gg = 1) = false := decide_eq_false hg1
    rw [hd] at hSm
    rw [if_neg hg1] at Hres
    have HS := Lib.hid hSm
    clear hSm hd hg1
    go_enter Tryz.func171,Tryz.ntmps171
    go_wp2_with (first
     | (go_at_call 172;refine HCK.out.mono ?_;rintro e w1 ⟨rfl,rfl⟩)
     | (go_at_call 174;refine HG.out.mono ?_;rintro e w1 ⟨a3,c3,rfl,hN3,hb1⟩;have HN3 := Lib.hid hN3;have hz1 := hb1.size;simp at hz1;clear hN3)
     | (go_at_call 118;refine (HS.out _ _ _ (HN3.out.same (qa1 w1 _)).ru (NumAt.one w1)).mono ?_;rintro e w3 ⟨rfl,hb3⟩))
    go_ret
    exact ⟨qac Hres.out.symm,hb0.trans ((hb1.mono (by simp)).trans (((qa1 w1 _).mono (by omega)).trans (hb3.mono (by simp;omega))))⟩
  ·subst hW0
   by_cases hg1 : gg = 1
   ·subst hg1
    have hd : decide (1 = 1) = true := rfl
    rw [hd] at hSm
    have HS := Lib.hid hSm
    clear hSm hd
    go_enter Tryz.func171,Tryz.ntmps171
    go_wp2_with (first
     | (go_at_call 172;refine HCK.out.mono ?_;rintro e w1 ⟨rfl,rfl⟩)
     | (go_at_call 174;refine HG.out.mono ?_;rintro e w1 ⟨a3,c3,rfl,hN3,hb1⟩;have HN3 := Lib.hid hN3;have hz1 := hb1.size;simp at hz1;clear hN3)
     | (go_at_call 118;refine (HS.out _ _ _ (HN3.out.same (qa1 w1 _)).ru (NumAt.one w1)).mono ?_;rintro e w3 ⟨rfl,hb3⟩))
    go_ret
    exact ⟨qac (by rw [Hres.out];rfl),hb0.trans ((hb1.mono (by simp)).trans (((qa1 w1 _).mono (by omega)).trans (hb3.mono (by simp;omega))))⟩
   ·have hd : decide (gg = 1) = false := decide_eq_false hg1
    rw [hd] at hSm
    rw [if_neg hg1] at Hres
    have HS := Lib.hid hSm
    clear hSm hd hg1
    go_enter Tryz.func171,Tryz.ntmps171
    go_wp2_with (first
     | (go_at_call 172;refine HCK.out.mono ?_;rintro e w1 ⟨rfl,rfl⟩)
     | (go_at_call 174;refine HG.out.mono ?_;rintro e w1 ⟨a3,c3,rfl,hN3,hb1⟩;have HN3 := Lib.hid hN3;have hz1 := hb1.size;simp at hz1;clear hN3)
     | (go_at_call 118;refine (HS.out _ _ _ (HN3.out.same (qa1 w1 _)).ru (NumAt.one w1)).mono ?_;rintro e w3 ⟨rfl,hb3⟩))
    go_ret
    exact ⟨qac Hres.out.symm,hb0.trans ((hb1.mono (by simp)).trans (((qa1 w1 _).mono (by omega)).trans (hb3.mono (by simp;omega))))⟩
end

section
open Go Go.RowKit Go.Shelf Limb

theorem cmpN_range (m n : Nat) : cmpN m n = -1 ∨ cmpN m n = 0 ∨ cmpN m n = 1 := by
 unfold cmpN
 split
 ·exact .inl rfl
 ·split
  ·exact .inr (.inr rfl)
  ·exact .inr (.inl rfl)
def CmpRGives (r : Int × Int) (w : World) (e : Ending) (w' : World) : Prop := e = .returned (.tuple #[.int .i64 r.1,.int .i64 r.2]) ∧ Below w.heap.size w w'
end

section
open Go Go.RowKit Go.Shelf Limb

set_option maxHeartbeats 1000000 in
theorem r4Both (S1 S2 S3 S4 : Nat → Prop) (neg1 neg2 : Bool) (v1 v2 v3 v4 : Value) (xs1 ys1 xs2 ys2 : List Int) (w : World) (h1 : RU S1 w v1 xs1) (h2 : RU S2 w v2 ys1) (h3 : RU S3 w v3 xs2) (h4 : RU S4 w v4 ys2) (k1 : ratChk neg1 xs1 ys1 = 0) (k2 : ratChk neg2 xs2 ys2 = 0) :
  Calls Tryz.prog 110 #[.agg #[.bool neg1,v1,v2],.agg #[.bool neg2,v3,v4]] w fun e w' => e = .returned (.bool true) ∧ Below w.heap.size w w' := by
 obtain ⟨a1,c1,rfl,-,-⟩ := RSl.shape h1
 obtain ⟨a2,c2,rfl,-,-⟩ := RSl.shape h2
 obtain ⟨a3,c3,rfl,-,-⟩ := RSl.shape h3
 obtain ⟨a4,c4,rfl,-,-⟩ := RSl.shape h4
 obtain ⟨W0,hW0⟩ : ∃ W0,W0 = (w.alloc (.cells #[.bool neg1,.slice a1 xs1.length c1,.slice a2 ys1.length c2] 56)).alloc (.cells #[.bool neg2,.slice a3 xs2.length c3,.slice a4 ys2.length c4] 56) := ⟨_,rfl⟩
 have hb0 : Below w.heap.size w W0 := by rw [hW0];exact (qa1 w _).alloc (by simp) _
 have hz0 : W0.heap.size = w.heap.size + 2 := by rw [hW0];simp
 have hgB : W0.heap[w.heap.size + 1]? = some (.cells #[.bool neg2,.slice a3 xs2.length c3,.slice a4 ys2.length c4] 56 (0,0)) := by rw [hW0];simpa using qa8 (w.alloc (.cells #[.bool neg1,.slice a1 xs1.length c1,.slice a2 ys1.length c2] 56)) (.cells #[.bool neg2,.slice a3 xs2.length c3,.slice a4 ys2.length c4] 56)
 have hcell : ∀ W,Below W0.heap.size W0 W → (∀ i,W.cell? ⟨w.heap.size + 1,i,none⟩ = (#[.bool neg2,.slice a3 xs2.length c3,.slice a4 ys2.length c4] : Array Value)[i]?) := fun W hW => (qa6 hW (by omega) hgB).2.1
 have hCk1 := r4Check S1 S2 neg1 _ _ xs1 ys1 W0 (h1.below hb0) (h2.below hb0)
 have hCk2 := fun W (hW : Below W0.heap.size W0 W) => r4Check S3 S4 neg2 _ _ xs2 ys2 W ((h3.below hb0).below hW) ((h4.below hb0).below hW)
 rw [k1] at hCk1
 rw [k2] at hCk2
 have HC := Lib.hid hcell;have HK1 := Lib.hid hCk1;have HK2 := Lib.hid hCk2
 clear hcell hCk1 hCk2 k1 k2 h1 h2 h3 h4 hgB hz0
 subst hW0
 go_enter Tryz.func110,Tryz.ntmps110
 go_wp2_with (first
  | (go_at_call 171;have := hbb1;refine (HK2.out _ hbb1).mono ?_;rintro e w2 ⟨rfl,hb2⟩;have hbb2 := hbb1.trans (hb2.mono hz1))
  | (go_at_call 171;refine HK1.out.mono ?_;rintro e w1 ⟨rfl,hbb1⟩;have hz1 := hbb1.size;have cB := HC.out _ hbb1))
 go_ret
 exact ⟨rfl,hb0.trans (hbb2.mono (by simp;omega))⟩
set_option maxHeartbeats 8000000 in
set_option maxRecDepth 100000 in
theorem r4Cmp (v1 v2 v3 v4 : Value) (m1 n1 m2 n2 : Nat) (w : World) (h1 : NumAt w v1 m1) (h2 : NumAt w v2 n1) (h3 : NumAt w v3 m2) (h4 : NumAt w v4 n2) (p1 : (lim m1).length ≤ 96) (p2 : (lim n1).length ≤ 96) (p4 : (lim m2).length ≤ 96) (p5 : (lim n2).length ≤ 96)
  (g1 : ratChk false (lim m1) (lim n1) = 0) (g2 : ratChk false (lim m2) (lim n2) = 0) (n10 : n1 ≠ 0) (n20 : n2 ≠ 0) (f1 : (lim (m1 * n2)).length ≤ 96) (f2 : (lim (m2 * n1)).length ≤ 96) :
  Calls Tryz.prog 49 #[.agg #[.bool false,v1,v2],.agg #[.bool false,v3,v4]] w (CmpRGives (cmpN (m1 * n2) (m2 * n1),0) w) := by
 have hBt := fun W => r4Both Any Any Any Any false false v1 v2 v3 v4 (lim m1) (lim n1) (lim m2) (lim n2) W
 obtain ⟨a1,c1,rfl⟩ := h1.shape
 obtain ⟨a2,c2,rfl⟩ := h2.shape
 obtain ⟨a3,c3,rfl⟩ := h3.shape
 obtain ⟨a4,c4,rfl⟩ := h4.shape
 obtain ⟨W0,hW0⟩ : ∃ W0,W0 = (w.alloc (.cells #[.bool false,.slice a1 (lim m1).length c1,.slice a2 (lim n1).length c2] 56)).alloc (.cells #[.bool false,.slice a3 (lim m2).length c3,.slice a4 (lim n2).length c4] 56) := ⟨_,rfl⟩
 have hb0 : Below w.heap.size w W0 := by rw [hW0];exact (qa1 w _).alloc (by simp) _
 have hz0 : W0.heap.size = w.heap.size + 2 := by rw [hW0];simp
 have hgA : W0.heap[w.heap.size]? = some (.cells #[.bool false,.slice a1 (lim m1).length c1,.slice a2 (lim n1).length c2] 56 (0,0)) := by rw [hW0];exact qay _ (qa8 w _)
 have hgB : W0.heap[w.heap.size + 1]? = some (.cells #[.bool false,.slice a3 (lim m2).length c3,.slice a4 (lim n2).length c4] 56 (0,0)) := by rw [hW0];simpa using qa8 (w.alloc (.cells #[.bool false,.slice a1 (lim m1).length c1,.slice a2 (lim n1).length c2] 56)) (.cells #[.bool false,.slice a3 (lim m2).length c3,.slice a4 (lim n2).length c4] 56)
 obtain ⟨V0,hV0⟩ : ∃ V0,V0 = W0 := ⟨_,rfl⟩
 have hVW : ∀ W,Below (w.heap.size + 2) V0 W → Below W0.heap.size W0 W := fun W hW => by rw [hz0,← hV0];exact hW
 have hVV : ∀ W,Below W0.heap.size W0 W → Below (w.heap.size + 2) V0 W := fun W hW => by rw [hz0] at hW;rw [hV0];exact hW
 have hZV : ∀ W,Below (w.heap.size + 2) V0 W → w.heap.size + 2 ≤ W.heap.size := fun W hW => by have := hW.size;rw [hV0,hz0] at this;exact this
 have hBW : ∀ W,Below (w.heap.size + 2) V0 W → Below w.heap.size w W := fun W hW => hb0.trans ((hVW W hW).mono (by omega))
 have hC6 : ∀ W,Below (w.heap.size + 2) V0 W → W.cell? ⟨w.heap.size,0,none⟩ = some (.bool false) ∧ W.cell? ⟨w.heap.size,1,none⟩ = some (.slice a1 (lim m1).length c1) ∧ W.cell? ⟨w.heap.size,2,none⟩ = some (.slice a2 (lim n1).length c2) ∧ W.cell? ⟨w.heap.size + 1,0,none⟩ = some (.bool false) ∧ W.cell? ⟨w.heap.size + 1,1,none⟩ = some (.slice a3 (lim m2).length c3) ∧ W.cell? ⟨w.heap.size + 1,2,none⟩ = some (.slice a4 (lim n2).length c4) := fun W hW => by
  have k1 := (qa6 (hVW W hW) (by omega) hgA).2.1
  have k2 := (qa6 (hVW W hW) (by omega) hgB).2.1
  exact ⟨k1 0,k1 1,k1 2,k2 0,k2 1,k2 2⟩
 have hB1 := hBt W0 (h1.same hb0).ru (h2.same hb0).ru (h3.same hb0).ru (h4.same hb0).ru g1 g2
 have hM1 := fun W (hW : Below (w.heap.size + 2) V0 W) => r3Mul _ _ m1 n2 W (h1.same (hBW W hW)) (h4.same (hBW W hW)) p1 p5
 have hM2 := fun W (hW : Below (w.heap.size + 2) V0 W) => r3Mul _ _ m2 n1 W (h3.same (hBW W hW)) (h2.same (hBW W hW)) p4 p2
 have hCm := fun W u v (k1 : NumAt W u (m1 * n2)) (k2 : NumAt W v (m2 * n1)) => r3Cmp u v _ _ W k1 k2 f1 f2
 have hSd1 := fun W => r4Side false a1 (lim m1).length c1 (.slice a2 (lim n1).length c2) W
 have hSd2 := fun W => r4Side false a3 (lim m2).length c3 (.slice a4 (lim n2).length c4) W
 have hm1 : m1 = 0 ↔ (lim m1).length = 0 := ⟨fun e => by rw [e,qaj];rfl,fun e => qad.1 (List.eq_nil_of_length_eq_zero e)⟩
 have hm2 : m2 = 0 ↔ (lim m2).length = 0 := ⟨fun e => by rw [e,qaj];rfl,fun e => qad.1 (List.eq_nil_of_length_eq_zero e)⟩
 have hsd : ∀ n,sideOf false n = if n = 0 then 0 else 1 := fun n => by unfold sideOf;split <;> rfl
 rw [hsd] at hSd1 hSd2
 obtain ⟨p,hp⟩ : ∃ p,m1 * n2 = p := ⟨_,rfl⟩
 obtain ⟨q,hq⟩ : ∃ q,m2 * n1 = q := ⟨_,rfl⟩
 have hp0 : m1 = 0 ↔ p = 0 := by rw [← hp]; constructor
                                 ·rintro rfl;exact Nat.zero_mul _
                                 ·intro h;rcases Nat.mul_eq_zero.1 h with h | h;exact h;exact absurd h n20
 have hq0 : m2 = 0 ↔ q = 0 := by rw [← hq]; constructor
                                 ·rintro rfl;exact Nat.zero_mul _
                                 ·intro h;rcases Nat.mul_eq_zero.1 h with h | h;exact h;exact absurd h n10
 rw [hp] at hM1 hCm f1 ⊢
 rw [hq] at hM2 hCm f2 ⊢
 have K1 := Lib.hid (hm1.symm.trans hp0);have K2 := Lib.hid (hm2.symm.trans hq0);have F1 := Lib.hid f1;have F2 := Lib.hid f2
 clear hBt hm1 hm2 hp0 hq0 hp hq hsd hgA hgB h1 h2 h3 h4 g1 g2 n10 n20 p1 p2 p4 p5 f1 f2
 generalize (lim m1).length = L1 at *
 generalize (lim n1).length = L2 at *
 generalize (lim m2).length = L3 at *
 generalize (lim n2).length = L4 at *
 have HB1 := Lib.hid hB1;have HM1 := Lib.hid hM1;have HM2 := Lib.hid hM2;have HCm := Lib.hid hCm;have HVV := Lib.hid hVV;have HZV := Lib.hid hZV;have HBW := Lib.hid hBW;have HC6 := Lib.hid hC6
 clear hB1 hM1 hM2 hCm hVV hVW hZV hBW hC6 hV0 hz0 hb0
 by_cases h1 : L1 = 0
 ·subst h1
  rw [if_pos rfl] at hSd1
  by_cases h2 : L3 = 0
  ·subst h2
   rw [if_pos rfl] at hSd2
   have HS1 := Lib.hid hSd1;have HS2 := Lib.hid hSd2
   clear hSd1 hSd2
   have hr : cmpN p q = 0 := by rw [K1.out.1 rfl,K2.out.1 rfl];rfl
   rw [hr]
   clear hr HM1 HM2 HCm F1 F2 K1 K2
   subst hW0
   go_enter Tryz.func49,Tryz.ntmps49
   go_wp2_with (go_at_call 110;refine HB1.out.mono ?_;rintro e w2 ⟨rfl,hb2⟩;have hbw2 := HVV.out _ hb2;have hz2 := HZV.out _ hbw2;obtain ⟨ca1,ca2,ca3,ca4,ca5,ca6⟩ := HC6.out _ hbw2)
   go_region_held3 (fun w' => w'.cell? ⟨w.heap.size,0,none⟩ = some (.bool false) ∧ w'.cell? ⟨w.heap.size,1,none⟩ = some (.slice a1 0 c1) ∧ w'.cell? ⟨w.heap.size,2,none⟩ = some (.slice a2 L2 c2) ∧ w'.cell? ⟨w.heap.size + 1,0,none⟩ = some (.bool false) ∧ w'.cell? ⟨w.heap.size + 1,1,none⟩ = some (.slice a3 0 c3) ∧ w'.cell? ⟨w.heap.size + 1,2,none⟩ = some (.slice a4 L4 c4))
    ((refine HC6.out _ ?_;repeat (first | (with_reducible assumption) | (with_reducible refine Below.setCell (p := ⟨_,_,none⟩) ?_ ?_ _) | (with_reducible refine Below.alloc ?_ ?_ _) | (with_reducible refine Below.drew ?_) | (simp;omega))))
    (first
     | (go_simp;go_at_call_of 115 (a1);refine (HS1.out _).mono ?_;rintro e w3 ⟨rfl,hb3⟩;have hbw3 : Below (w.heap.size + 2) V0 w3 := Below.trans (by repeat (first | (with_reducible assumption) | (with_reducible refine Below.setCell (p := ⟨_,_,none⟩) ?_ ?_ _) | (with_reducible refine Below.alloc ?_ ?_ _) | (with_reducible refine Below.drew ?_) | (simp;omega))) (hb3.mono (by first | (with_reducible assumption) | (simp;omega)));have hz3 : w.heap.size + 2 ≤ w3.heap.size := HZV.out _ hbw3)
     | (go_simp;go_at_call_of 115 (a3);refine (HS2.out _).mono ?_;rintro e w4 ⟨rfl,hb4⟩;have hbw4 : Below (w.heap.size + 2) V0 w4 := Below.trans (by repeat (first | (with_reducible assumption) | (with_reducible refine Below.setCell (p := ⟨_,_,none⟩) ?_ ?_ _) | (with_reducible refine Below.alloc ?_ ?_ _) | (with_reducible refine Below.drew ?_) | (simp;omega))) (hb4.mono (by first | (with_reducible assumption) | (simp;omega)));have hz4 : w.heap.size + 2 ≤ w4.heap.size := HZV.out _ hbw4))
   obtain ⟨cb1,cb2,cb3,cb4,cb5,cb6⟩ := HC6.out _ hbw4
   go_wp2
   go_region_held3 (fun w' => w'.cell? ⟨w.heap.size,0,none⟩ = some (.bool false) ∧ w'.cell? ⟨w.heap.size,1,none⟩ = some (.slice a1 0 c1) ∧ w'.cell? ⟨w.heap.size,2,none⟩ = some (.slice a2 L2 c2) ∧ w'.cell? ⟨w.heap.size + 1,0,none⟩ = some (.bool false) ∧ w'.cell? ⟨w.heap.size + 1,1,none⟩ = some (.slice a3 0 c3) ∧ w'.cell? ⟨w.heap.size + 1,2,none⟩ = some (.slice a4 L4 c4))
    ((refine HC6.out _ ?_;repeat (first | (with_reducible assumption) | (with_reducible refine Below.setCell (p := ⟨_,_,none⟩) ?_ ?_ _) | (with_reducible refine Below.alloc ?_ ?_ _) | (with_reducible refine Below.drew ?_) | (simp;omega))))
    (first
     | (go_simp;go_at_call_of 115 (a1);refine (HS1.out _).mono ?_;rintro e w5 ⟨rfl,hb5⟩;have hbw5 : Below (w.heap.size + 2) V0 w5 := Below.trans (by repeat (first | (with_reducible assumption) | (with_reducible refine Below.setCell (p := ⟨_,_,none⟩) ?_ ?_ _) | (with_reducible refine Below.alloc ?_ ?_ _) | (with_reducible refine Below.drew ?_) | (simp;omega))) (hb5.mono (by first | (with_reducible assumption) | (simp;omega)));have hz5 : w.heap.size + 2 ≤ w5.heap.size := HZV.out _ hbw5)
     | (go_simp;go_at_call_of 115 (a3);refine (HS2.out _).mono ?_;rintro e w6 ⟨rfl,hb6⟩;have hbw6 : Below (w.heap.size + 2) V0 w6 := Below.trans (by repeat (first | (with_reducible assumption) | (with_reducible refine Below.setCell (p := ⟨_,_,none⟩) ?_ ?_ _) | (with_reducible refine Below.alloc ?_ ?_ _) | (with_reducible refine Below.drew ?_) | (simp;omega))) (hb6.mono (by first | (with_reducible assumption) | (simp;omega)));have hz6 : w.heap.size + 2 ≤ w6.heap.size := HZV.out _ hbw6))
   obtain ⟨cd1,cd2,cd3,cd4,cd5,cd6⟩ := HC6.out _ hbw6
   go_wp2_with (go_at_call 115;refine (HS1.out _).mono ?_;rintro e w7 ⟨rfl,hb7⟩;have hbw7 : Below (w.heap.size + 2) V0 w7 := Below.trans (by repeat (first | (with_reducible assumption) | (with_reducible refine Below.setCell (p := ⟨_,_,none⟩) ?_ ?_ _) | (with_reducible refine Below.alloc ?_ ?_ _) | (with_reducible refine Below.drew ?_) | (simp;omega))) (hb7.mono (by first | (with_reducible assumption) | (simp;omega)));have hz7 : w.heap.size + 2 ≤ w7.heap.size := HZV.out _ hbw7)
   go_ret2
   exact ⟨rfl,HBW.out _ (by repeat (first | (with_reducible assumption) | (with_reducible refine Below.setCell (p := ⟨_,_,none⟩) ?_ ?_ _) | (with_reducible refine Below.alloc ?_ ?_ _) | (with_reducible refine Below.drew ?_) | (simp;omega)))⟩
  ·rw [if_neg h2] at hSd2
   have HS1 := Lib.hid hSd1;have HS2 := Lib.hid hSd2
   clear hSd1 hSd2
   have hr : cmpN p q = -1 := by rw [K1.out.1 rfl,cmpN,if_pos];have := mt K2.out.2 h2;omega
   rw [hr]
   clear hr HM1 HM2 HCm F1 F2 K1 K2
   subst hW0
   go_enter Tryz.func49,Tryz.ntmps49
   go_wp2_with (go_at_call 110;refine HB1.out.mono ?_;rintro e w2 ⟨rfl,hb2⟩;have hbw2 := HVV.out _ hb2;have hz2 := HZV.out _ hbw2;obtain ⟨ca1,ca2,ca3,ca4,ca5,ca6⟩ := HC6.out _ hbw2)
   go_region_held3 (fun w' => w'.cell? ⟨w.heap.size,0,none⟩ = some (.bool false) ∧ w'.cell? ⟨w.heap.size,1,none⟩ = some (.slice a1 0 c1) ∧ w'.cell? ⟨w.heap.size,2,none⟩ = some (.slice a2 L2 c2) ∧ w'.cell? ⟨w.heap.size + 1,0,none⟩ = some (.bool false) ∧ w'.cell? ⟨w.heap.size + 1,1,none⟩ = some (.slice a3 L3 c3) ∧ w'.cell? ⟨w.heap.size + 1,2,none⟩ = some (.slice a4 L4 c4))
    ((refine HC6.out _ ?_;repeat (first | (with_reducible assumption) | (with_reducible refine Below.setCell (p := ⟨_,_,none⟩) ?_ ?_ _) | (with_reducible refine Below.alloc ?_ ?_ _) | (with_reducible refine Below.drew ?_) | (simp;omega))))
    (first
     | (go_simp;go_at_call_of 115 (a1);refine (HS1.out _).mono ?_;rintro e w3 ⟨rfl,hb3⟩;have hbw3 : Below (w.heap.size + 2) V0 w3 := Below.trans (by repeat (first | (with_reducible assumption) | (with_reducible refine Below.setCell (p := ⟨_,_,none⟩) ?_ ?_ _) | (with_reducible refine Below.alloc ?_ ?_ _) | (with_reducible refine Below.drew ?_) | (simp;omega))) (hb3.mono (by first | (with_reducible assumption) | (simp;omega)));have hz3 : w.heap.size + 2 ≤ w3.heap.size := HZV.out _ hbw3)
     | (go_simp;go_at_call_of 115 (a3);refine (HS2.out _).mono ?_;rintro e w4 ⟨rfl,hb4⟩;have hbw4 : Below (w.heap.size + 2) V0 w4 := Below.trans (by repeat (first | (with_reducible assumption) | (with_reducible refine Below.setCell (p := ⟨_,_,none⟩) ?_ ?_ _) | (with_reducible refine Below.alloc ?_ ?_ _) | (with_reducible refine Below.drew ?_) | (simp;omega))) (hb4.mono (by first | (with_reducible assumption) | (simp;omega)));have hz4 : w.heap.size + 2 ≤ w4.heap.size := HZV.out _ hbw4))
   obtain ⟨cb1,cb2,cb3,cb4,cb5,cb6⟩ := HC6.out _ hbw4
   go_wp2
   go_ret2
   exact ⟨rfl,HBW.out _ (by repeat (first | (with_reducible assumption) | (with_reducible refine Below.setCell (p := ⟨_,_,none⟩) ?_ ?_ _) | (with_reducible refine Below.alloc ?_ ?_ _) | (with_reducible refine Below.drew ?_) | (simp;omega)))⟩
 ·rw [if_neg h1] at hSd1
  by_cases h2 : L3 = 0
  ·subst h2
   rw [if_pos rfl] at hSd2
   have HS1 := Lib.hid hSd1;have HS2 := Lib.hid hSd2
   clear hSd1 hSd2
   have hr : cmpN p q = 1 := by rw [K2.out.1 rfl,cmpN,if_neg (by omega),if_pos];have := mt K1.out.2 h1;omega
   rw [hr]
   clear hr HM1 HM2 HCm F1 F2 K1 K2
   subst hW0
   go_enter Tryz.func49,Tryz.ntmps49
   go_wp2_with (go_at_call 110;refine HB1.out.mono ?_;rintro e w2 ⟨rfl,hb2⟩;have hbw2 := HVV.out _ hb2;have hz2 := HZV.out _ hbw2;obtain ⟨ca1,ca2,ca3,ca4,ca5,ca6⟩ := HC6.out _ hbw2)
   go_region_held3 (fun w' => w'.cell? ⟨w.heap.size,0,none⟩ = some (.bool false) ∧ w'.cell? ⟨w.heap.size,1,none⟩ = some (.slice a1 L1 c1) ∧ w'.cell? ⟨w.heap.size,2,none⟩ = some (.slice a2 L2 c2) ∧ w'.cell? ⟨w.heap.size + 1,0,none⟩ = some (.bool false) ∧ w'.cell? ⟨w.heap.size + 1,1,none⟩ = some (.slice a3 0 c3) ∧ w'.cell? ⟨w.heap.size + 1,2,none⟩ = some (.slice a4 L4 c4))
    ((refine HC6.out _ ?_;repeat (first | (with_reducible assumption) | (with_reducible refine Below.setCell (p := ⟨_,_,none⟩) ?_ ?_ _) | (with_reducible refine Below.alloc ?_ ?_ _) | (with_reducible refine Below.drew ?_) | (simp;omega))))
    (first
     | (go_simp;go_at_call_of 115 (a1);refine (HS1.out _).mono ?_;rintro e w3 ⟨rfl,hb3⟩;have hbw3 : Below (w.heap.size + 2) V0 w3 := Below.trans (by repeat (first | (with_reducible assumption) | (with_reducible refine Below.setCell (p := ⟨_,_,none⟩) ?_ ?_ _) | (with_reducible refine Below.alloc ?_ ?_ _) | (with_reducible refine Below.drew ?_) | (simp;omega))) (hb3.mono (by first | (with_reducible assumption) | (simp;omega)));have hz3 : w.heap.size + 2 ≤ w3.heap.size := HZV.out _ hbw3)
     | (go_simp;go_at_call_of 115 (a3);refine (HS2.out _).mono ?_;rintro e w4 ⟨rfl,hb4⟩;have hbw4 : Below (w.heap.size + 2) V0 w4 := Below.trans (by repeat (first | (with_reducible assumption) | (with_reducible refine Below.setCell (p := ⟨_,_,none⟩) ?_ ?_ _) | (with_reducible refine Below.alloc ?_ ?_ _) | (with_reducible refine Below.drew ?_) | (simp;omega))) (hb4.mono (by first | (with_reducible assumption) | (simp;omega)));have hz4 : w.heap.size + 2 ≤ w4.heap.size := HZV.out _ hbw4))
   obtain ⟨cb1,cb2,cb3,cb4,cb5,cb6⟩ := HC6.out _ hbw4
   go_wp2
   go_region_held3 (fun w' => w'.cell? ⟨w.heap.size,0,none⟩ = some (.bool false) ∧ w'.cell? ⟨w.heap.size,1,none⟩ = some (.slice a1 L1 c1) ∧ w'.cell? ⟨w.heap.size,2,none⟩ = some (.slice a2 L2 c2) ∧ w'.cell? ⟨w.heap.size + 1,0,none⟩ = some (.bool false) ∧ w'.cell? ⟨w.heap.size + 1,1,none⟩ = some (.slice a3 0 c3) ∧ w'.cell? ⟨w.heap.size + 1,2,none⟩ = some (.slice a4 L4 c4))
    ((refine HC6.out _ ?_;repeat (first | (with_reducible assumption) | (with_reducible refine Below.setCell (p := ⟨_,_,none⟩) ?_ ?_ _) | (with_reducible refine Below.alloc ?_ ?_ _) | (with_reducible refine Below.drew ?_) | (simp;omega))))
    (first
     | (go_simp;go_at_call_of 115 (a1);refine (HS1.out _).mono ?_;rintro e w5 ⟨rfl,hb5⟩;have hbw5 : Below (w.heap.size + 2) V0 w5 := Below.trans (by repeat (first | (with_reducible assumption) | (with_reducible refine Below.setCell (p := ⟨_,_,none⟩) ?_ ?_ _) | (with_reducible refine Below.alloc ?_ ?_ _) | (with_reducible refine Below.drew ?_) | (simp;omega))) (hb5.mono (by first | (with_reducible assumption) | (simp;omega)));have hz5 : w.heap.size + 2 ≤ w5.heap.size := HZV.out _ hbw5)
     | (go_simp;go_at_call_of 115 (a3);refine (HS2.out _).mono ?_;rintro e w6 ⟨rfl,hb6⟩;have hbw6 : Below (w.heap.size + 2) V0 w6 := Below.trans (by repeat (first | (with_reducible assumption) | (with_reducible refine Below.setCell (p := ⟨_,_,none⟩) ?_ ?_ _) | (with_reducible refine Below.alloc ?_ ?_ _) | (with_reducible refine Below.drew ?_) | (simp;omega))) (hb6.mono (by first | (with_reducible assumption) | (simp;omega)));have hz6 : w.heap.size + 2 ≤ w6.heap.size := HZV.out _ hbw6))
   obtain ⟨cd1,cd2,cd3,cd4,cd5,cd6⟩ := HC6.out _ hbw6
   go_wp2
   go_ret2
   exact ⟨rfl,HBW.out _ (by repeat (first | (with_reducible assumption) | (with_reducible refine Below.setCell (p := ⟨_,_,none⟩) ?_ ?_ _) | (with_reducible refine Below.alloc ?_ ?_ _) | (with_reducible refine Below.drew ?_) | (simp;omega)))⟩
  ·rw [if_neg h2] at hSd2
   have HS1 := Lib.hid hSd1;have HS2 := Lib.hid hSd2
   clear hSd1 hSd2
   have hrg := cmpN_range p q
   obtain ⟨cc,hcc⟩ : ∃ cc,cmpN p q = cc := ⟨_,rfl⟩
   have hCm2 := HCm.out;rw [hcc] at hCm2 hrg ⊢;clear HCm;have HCm := Lib.hid hCm2
   have hw : IntKind.i64.wrap (1 * cc) = cc := by rcases hrg with rfl | rfl | rfl <;> rfl
   have hw2 : IntKind.i64.wrap cc = cc := by rcases hrg with rfl | rfl | rfl <;> rfl
   clear hCm2 hrg hcc K1 K2
   subst hW0
   go_enter Tryz.func49,Tryz.ntmps49
   go_wp2_with (go_at_call 110;refine HB1.out.mono ?_;rintro e w2 ⟨rfl,hb2⟩;have hbw2 := HVV.out _ hb2;have hz2 := HZV.out _ hbw2;obtain ⟨ca1,ca2,ca3,ca4,ca5,ca6⟩ := HC6.out _ hbw2)
   go_region_held3 (fun w' => w'.cell? ⟨w.heap.size,0,none⟩ = some (.bool false) ∧ w'.cell? ⟨w.heap.size,1,none⟩ = some (.slice a1 L1 c1) ∧ w'.cell? ⟨w.heap.size,2,none⟩ = some (.slice a2 L2 c2) ∧ w'.cell? ⟨w.heap.size + 1,0,none⟩ = some (.bool false) ∧ w'.cell? ⟨w.heap.size + 1,1,none⟩ = some (.slice a3 L3 c3) ∧ w'.cell? ⟨w.heap.size + 1,2,none⟩ = some (.slice a4 L4 c4))
    ((refine HC6.out _ ?_;repeat (first | (with_reducible assumption) | (with_reducible refine Below.setCell (p := ⟨_,_,none⟩) ?_ ?_ _) | (with_reducible refine Below.alloc ?_ ?_ _) | (with_reducible refine Below.drew ?_) | (simp;omega))))
    (first
     | (go_simp;go_at_call_of 115 (a1);refine (HS1.out _).mono ?_;rintro e w3 ⟨rfl,hb3⟩;have hbw3 : Below (w.heap.size + 2) V0 w3 := Below.trans (by repeat (first | (with_reducible assumption) | (with_reducible refine Below.setCell (p := ⟨_,_,none⟩) ?_ ?_ _) | (with_reducible refine Below.alloc ?_ ?_ _) | (with_reducible refine Below.drew ?_) | (simp;omega))) (hb3.mono (by first | (with_reducible assumption) | (simp;omega)));have hz3 : w.heap.size + 2 ≤ w3.heap.size := HZV.out _ hbw3)
     | (go_simp;go_at_call_of 115 (a3);refine (HS2.out _).mono ?_;rintro e w4 ⟨rfl,hb4⟩;have hbw4 : Below (w.heap.size + 2) V0 w4 := Below.trans (by repeat (first | (with_reducible assumption) | (with_reducible refine Below.setCell (p := ⟨_,_,none⟩) ?_ ?_ _) | (with_reducible refine Below.alloc ?_ ?_ _) | (with_reducible refine Below.drew ?_) | (simp;omega))) (hb4.mono (by first | (with_reducible assumption) | (simp;omega)));have hz4 : w.heap.size + 2 ≤ w4.heap.size := HZV.out _ hbw4))
   obtain ⟨cb1,cb2,cb3,cb4,cb5,cb6⟩ := HC6.out _ hbw4
   go_wp2
   go_region_held3 (fun w' => w'.cell? ⟨w.heap.size,0,none⟩ = some (.bool false) ∧ w'.cell? ⟨w.heap.size,1,none⟩ = some (.slice a1 L1 c1) ∧ w'.cell? ⟨w.heap.size,2,none⟩ = some (.slice a2 L2 c2) ∧ w'.cell? ⟨w.heap.size + 1,0,none⟩ = some (.bool false) ∧ w'.cell? ⟨w.heap.size + 1,1,none⟩ = some (.slice a3 L3 c3) ∧ w'.cell? ⟨w.heap.size + 1,2,none⟩ = some (.slice a4 L4 c4))
    ((refine HC6.out _ ?_;repeat (first | (with_reducible assumption) | (with_reducible refine Below.setCell (p := ⟨_,_,none⟩) ?_ ?_ _) | (with_reducible refine Below.alloc ?_ ?_ _) | (with_reducible refine Below.drew ?_) | (simp;omega))))
    (first
     | (go_simp;go_at_call_of 115 (a1);refine (HS1.out _).mono ?_;rintro e w5 ⟨rfl,hb5⟩;have hbw5 : Below (w.heap.size + 2) V0 w5 := Below.trans (by repeat (first | (with_reducible assumption) | (with_reducible refine Below.setCell (p := ⟨_,_,none⟩) ?_ ?_ _) | (with_reducible refine Below.alloc ?_ ?_ _) | (with_reducible refine Below.drew ?_) | (simp;omega))) (hb5.mono (by first | (with_reducible assumption) | (simp;omega)));have hz5 : w.heap.size + 2 ≤ w5.heap.size := HZV.out _ hbw5)
     | (go_simp;go_at_call_of 115 (a3);refine (HS2.out _).mono ?_;rintro e w6 ⟨rfl,hb6⟩;have hbw6 : Below (w.heap.size + 2) V0 w6 := Below.trans (by repeat (first | (with_reducible assumption) | (with_reducible refine Below.setCell (p := ⟨_,_,none⟩) ?_ ?_ _) | (with_reducible refine Below.alloc ?_ ?_ _) | (with_reducible refine Below.drew ?_) | (simp;omega))) (hb6.mono (by first | (with_reducible assumption) | (simp;omega)));have hz6 : w.heap.size + 2 ≤ w6.heap.size := HZV.out _ hbw6))
   obtain ⟨cd1,cd2,cd3,cd4,cd5,cd6⟩ := HC6.out _ hbw6
   go_wp2_with (first
    | (go_at_call 115;have := hbw10;refine (HS1.out _).mono ?_;rintro e w11 ⟨rfl,hb11⟩;have hbw11 : Below (w.heap.size + 2) V0 w11 := Below.trans (by repeat (first | (with_reducible assumption) | (with_reducible refine Below.setCell (p := ⟨_,_,none⟩) ?_ ?_ _) | (with_reducible refine Below.alloc ?_ ?_ _) | (with_reducible refine Below.drew ?_) | (simp;omega))) (hb11.mono (by first | (with_reducible assumption) | (simp;omega)));have hz11 : w.heap.size + 2 ≤ w11.heap.size := HZV.out _ hbw11)
    | (go_at_call 115;refine (HS1.out _).mono ?_;rintro e w7 ⟨rfl,hb7⟩;have hbw7 : Below (w.heap.size + 2) V0 w7 := Below.trans (by repeat (first | (with_reducible assumption) | (with_reducible refine Below.setCell (p := ⟨_,_,none⟩) ?_ ?_ _) | (with_reducible refine Below.alloc ?_ ?_ _) | (with_reducible refine Below.drew ?_) | (simp;omega))) (hb7.mono (by first | (with_reducible assumption) | (simp;omega)));have hz7 : w.heap.size + 2 ≤ w7.heap.size := HZV.out _ hbw7;obtain ⟨ce1,ce2,ce3,ce4,ce5,ce6⟩ := HC6.out _ hbw7)
    | (go_at_call 111;have := hbw8;refine (HM2.out _ hbw8).mono ?_;rintro e w9 ⟨hf1,hf2,hb9⟩;obtain ⟨a6,c6,rfl,hN6⟩ := hf1 F2.out;have HN6 := Lib.hid hN6;have HN5' := Lib.hid (HN5.out.same hb9);have hbw9 : Below (w.heap.size + 2) V0 w9 := Below.trans (by repeat (first | (with_reducible assumption) | (with_reducible refine Below.setCell (p := ⟨_,_,none⟩) ?_ ?_ _) | (with_reducible refine Below.alloc ?_ ?_ _) | (with_reducible refine Below.drew ?_) | (simp;omega))) (hb9.mono (by first | (with_reducible assumption) | (simp;omega)));have hz9 : w.heap.size + 2 ≤ w9.heap.size := HZV.out _ hbw9;obtain ⟨cg1,cg2,cg3,cg4,cg5,cg6⟩ := HC6.out _ hbw9;clear hN6 hf1 hf2 this)
    | (go_at_call 111;refine (HM1.out _ hbw7).mono ?_;rintro e w8 ⟨hf1,hf2,hb8⟩;obtain ⟨a5,c5,rfl,hN5⟩ := hf1 F1.out;have HN5 := Lib.hid hN5;have hbw8 : Below (w.heap.size + 2) V0 w8 := Below.trans (by repeat (first | (with_reducible assumption) | (with_reducible refine Below.setCell (p := ⟨_,_,none⟩) ?_ ?_ _) | (with_reducible refine Below.alloc ?_ ?_ _) | (with_reducible refine Below.drew ?_) | (simp;omega))) (hb8.mono (by first | (with_reducible assumption) | (simp;omega)));have hz8 : w.heap.size + 2 ≤ w8.heap.size := HZV.out _ hbw8;obtain ⟨cf1,cf2,cf3,cf4,cf5,cf6⟩ := HC6.out _ hbw8;clear hN5 hf1 hf2)
    | (go_at_call 116;refine (HCm.out _ _ _ HN5'.out HN6.out).mono ?_;rintro e w10 ⟨rfl,hb10⟩;have hbw10 : Below (w.heap.size + 2) V0 w10 := Below.trans (by repeat (first | (with_reducible assumption) | (with_reducible refine Below.setCell (p := ⟨_,_,none⟩) ?_ ?_ _) | (with_reducible refine Below.alloc ?_ ?_ _) | (with_reducible refine Below.drew ?_) | (simp;omega))) (hb10.mono (by first | (with_reducible assumption) | (simp;omega)));have hz10 : w.heap.size + 2 ≤ w10.heap.size := HZV.out _ hbw10;obtain ⟨ch1,ch2,ch3,ch4,ch5,ch6⟩ := HC6.out _ hbw10))
   go_ret2
   exact ⟨rfl,HBW.out _ (by repeat (first | (with_reducible assumption) | (with_reducible refine Below.setCell (p := ⟨_,_,none⟩) ?_ ?_ _) | (with_reducible refine Below.alloc ?_ ?_ _) | (with_reducible refine Below.drew ?_) | (simp;omega)))⟩
end
end Go.Proofs.YthcbkhfmdginiaaGreat
