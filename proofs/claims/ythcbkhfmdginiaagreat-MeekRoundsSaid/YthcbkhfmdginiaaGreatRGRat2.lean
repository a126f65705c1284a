/- Texts of one claim,put together: NatA,RatW,RatF,RatM,RatO. -/
import Derived.Test.YthcbkhfmdginiaaGreatRGNat
import Derived.Test.YthcbkhfmdginiaaGreatRGOne
import Derived.Test.YthcbkhfmdginiaaGreatRGRat
import Derived.Test.YthcbkhfmdginiaaGreatRGRul
import Derived.Test.YthcbkhfmdginiaaGreatRGSam

namespace Go.Proofs.YthcbkhfmdginiaaGreat
section
open Go Go.RowKit Go.Shelf Limb

theorem qb9 {n : Nat} (h : n < 9223372036854775808) : (lim n).length ≤ 2 := qah (k := 2) (by simp only [pw];omega)
theorem chk_whole {n : Nat} (h : n < 9223372036854775808) : ratChk false (lim n) [1] = 0 := by
 have := qb9 h
 rw [← lim1,ratChk_ok (m := n) (n := 1) (g := 1) (by omega) (by rw [lim1];decide) (by omega) (Nat.gcd_one_right n) (by simp),if_pos rfl]
end

section
open Go Go.RowKit Go.Shelf Limb

def GivesPQ (P Q : Nat) (w : World) (e : Ending) (w' : World) : Prop :=
 ∃ a c a' c',e = .returned (.tuple #[.agg #[.bool false,.slice a (lim P).length c,.slice a' (lim Q).length c'],.int .i64 0]) ∧ RU Any w' (.slice a (lim P).length c) (lim P) ∧ RU Any w' (.slice a' (lim Q).length c') (lim Q) ∧ Below w.heap.size w w'
structure Pos (w : World) (v1 v2 : Value) (m n : Nat) : Prop where
 num : NumAt w v1 m
 den : NumAt w v2 n
 ok : ratChk false (lim m) (lim n) = 0
 l1 : (lim m).length ≤ 96
 l2 : (lim n).length ≤ 96
 pos : 0 < n
theorem Pos.same {w w' : World} {v1 v2 : Value} {m n : Nat} (h : Pos w v1 v2 m n) (hb : Below w.heap.size w w') : Pos w' v1 v2 m n := ⟨h.num.same hb,h.den.same hb,h.ok,h.l1,h.l2,h.pos⟩
structure AddFit (m1 n1 m2 n2 : Nat) : Prop where
 f1 : (lim (m1 * n2)).length ≤ 96
 f2 : (lim (m2 * n1)).length ≤ 96
 f3 : (lim (n1 * n2)).length ≤ 96
 f4 : (lim (m1 * n2 + m2 * n1)).length ≤ 96
end

section
open Go Go.RowKit Go.Shelf Limb

def mulN (m1 n1 m2 n2 : Nat) : Nat := (m1 * m2) / Nat.gcd (m1 * m2) (n1 * n2)
def mulD (m1 n1 m2 n2 : Nat) : Nat := (n1 * n2) / Nat.gcd (m1 * m2) (n1 * n2)
set_option maxHeartbeats 2000000 in
set_option maxRecDepth 100000 in
theorem ratProd (v1 v2 v3 v4 : Value) (m1 n1 m2 n2 : Nat) (w : World) (h1 : NumAt w v1 m1) (h2 : NumAt w v2 n1) (h3 : NumAt w v3 m2) (h4 : NumAt w v4 n2) (l1 : (lim m1).length ≤ 96) (l2 : (lim n1).length ≤ 96) (l3 : (lim m2).length ≤ 96) (l4 : (lim n2).length ≤ 96) (z1 : 0 < n1) (z2 : 0 < n2)
  (f1 : (lim (m1 * m2)).length ≤ 96) (f3 : (lim (n1 * n2)).length ≤ 96) :
  Calls Tryz.prog 102 #[.agg #[.bool false,v1,v2,.bool false,v3,v4]] w (GivesPQ ((m1 * m2) / Nat.gcd (m1 * m2) (n1 * n2)) ((n1 * n2) / Nat.gcd (m1 * m2) (n1 * n2)) w) := by
 obtain ⟨a1,c1,rfl⟩ := h1.shape
 obtain ⟨a2,c2,rfl⟩ := h2.shape
 obtain ⟨a3,c3,rfl⟩ := h3.shape
 obtain ⟨a4,c4,rfl⟩ := h4.shape
 obtain ⟨W0,hW0⟩ : ∃ W0,W0 = (w.alloc (.cells #[.bool false,.slice a1 (lim m1).length c1,.slice a2 (lim n1).length c2,.bool false,.slice a3 (lim m2).length c3,.slice a4 (lim n2).length c4] 127)).alloc (.cells #[.bool false,.slice none 0 0,.slice none 0 0] 56) := ⟨_,rfl⟩
 have hb0 : Below w.heap.size w W0 := by rw [hW0];exact (qa1 w _).alloc (by simp) _
 have hz0 : W0.heap.size = w.heap.size + 2 := by rw [hW0];simp
 have hgA : W0.heap[w.heap.size]? = some (.cells #[.bool false,.slice a1 (lim m1).length c1,.slice a2 (lim n1).length c2,.bool false,.slice a3 (lim m2).length c3,.slice a4 (lim n2).length c4] 127 (0,0)) := by rw [hW0];exact qay _ (qa8 w _)
 have hgB : W0.heap[w.heap.size + 1]? = some (.cells #[.bool false,.slice none 0 0,.slice none 0 0] 56 (0,0)) := by rw [hW0];simpa using qa8 (w.alloc (.cells #[.bool false,.slice a1 (lim m1).length c1,.slice a2 (lim n1).length c2,.bool false,.slice a3 (lim m2).length c3,.slice a4 (lim n2).length c4] 127)) (.cells #[.bool false,.slice none 0 0,.slice none 0 0] 56)
 obtain ⟨p,hp⟩ : ∃ p,m1 * m2 = p := ⟨_,rfl⟩
 obtain ⟨d,hd⟩ : ∃ d,n1 * n2 = d := ⟨_,rfl⟩
 have hFit : ∀ (N : Nat) (W W' : World) (e : Ending),(lim N).length ≤ 96 → FitGives N W e W' → ∃ a c,e = .returned (.tuple #[.slice a (lim N).length c,.int .i64 0]) ∧ NumAt W' (.slice a (lim N).length c) N ∧ Below W.heap.size W W' := fun N W W' e hl hh => by
  obtain ⟨k1,-,k3⟩ := hh
  obtain ⟨a,c,k4,k5⟩ := k1 hl
  exact ⟨a,c,k4,k5,k3⟩
 have hMu := fun (W : World) (hW : Below W0.heap.size W0 W) => (natMul _ _ n1 n2 W ((h2.same hb0).same hW) ((h4.same hb0).same hW) l2 l4).mono fun e w' hh => hFit _ _ _ _ f3 hh
 have hMn := fun (W : World) (hW : Below W0.heap.size W0 W) => (natMul _ _ m1 m2 W ((h1.same hb0).same hW) ((h3.same hb0).same hW) l1 l3).mono fun e w' hh => hFit _ _ _ _ f1 hh
 rw [hd] at hMu f3
 rw [hp] at hMn f1
 rw [hp,hd]
 have hd0 : 0 < d := by rw [← hd];exact Nat.mul_pos z1 z2
 have hLo := fun (W : World) u v (k1 : NumAt W u p) (k2 : NumAt W v d) => ratLowest false u v p d W k1 k2 f1 f3 hd0
 simp only [Bool.false_and] at hLo
 obtain ⟨P,hP⟩ : ∃ P,p / Nat.gcd p d = P := ⟨_,rfl⟩
 obtain ⟨Q,hQ⟩ : ∃ Q,d / Nat.gcd p d = Q := ⟨_,rfl⟩
 rw [hP,hQ] at hLo ⊢
 have hcell : ∀ W,Below W0.heap.size W0 W → (∀ i,W.cell? ⟨w.heap.size,i,none⟩ = (#[.bool false,.slice a1 (lim m1).length c1,.slice a2 (lim n1).length c2,.bool false,.slice a3 (lim m2).length c3,.slice a4 (lim n2).length c4] : Array Value)[i]?) ∧ (∀ i,W.cell? ⟨w.heap.size + 1,i,none⟩ = (#[.bool false,.slice none 0 0,.slice none 0 0] : Array Value)[i]?) ∧ (∀ i,W.frozen? ⟨w.heap.size + 1,i,none⟩ = false) ∧ w.heap.size + 1 < W.heap.size := fun W hW => ⟨(qa6 hW (by omega) hgA).2.1,(qa6 hW (by omega) hgB).2.1,(qa6 hW (by omega) hgB).2.2,by have := hW.size;omega⟩
 generalize (lim m1).length = L1 at *
 generalize (lim n1).length = L2 at *
 generalize (lim m2).length = L3 at *
 generalize (lim n2).length = L4 at *
 have hfin : ∀ (w3 : World) v n,Below W0.heap.size W0 w3 → NumAt w3 v n → ∀ w',Same (fun b => b ≠ w.heap.size + 1) w3 w' → NumAt w' v n := fun w3 v n hW k w' hs => by
  obtain ⟨g1,-,-⟩ := qa6 hW (by omega) hgB
  exact k.kept g1 (bss_ne _ _ _ (by simp) (by simp)) hs
 have HMn := Lib.hid hMn;have HMu := Lib.hid hMu;have HLo := Lib.hid hLo;have HC := Lib.hid hcell;have HFn := Lib.hid hfin;have Hb0 := Lib.hid hb0;have Hz0 := Lib.hid hz0
 clear hMn hMu hLo hcell hfin hb0 hz0 hFit hgA hgB h1 h2 h3 h4 l1 l2 l3 l4 f1 f3 hp hd hP hQ z1 z2 hd0
 have st0 := Lib.hid True.intro
 subst hW0
 go_enter Tryz.func102,Tryz.ntmps102
 go_wp2_with (first
  | (have := st2;go_at_call 164;clear st2;refine (HLo.out _ _ _ HN2.out HD2.out).mono ?_;rintro e w5 ⟨a10,c10,a11,c11,rfl,k1,k2,hb⟩;have B5 := Lib.hid (bt B2.out hb);obtain ⟨-,y1,z1,y3⟩ := HC.out w5 B5.out;have y10 := y1 0;have y11 := y1 1;have y12 := y1 2;have HP5 := Lib.hid k1;have HQ5 := Lib.hid k2;clear k1 k2 hb this)
  | (have := st1;go_at_call 163;clear st1;refine (HMu.out w1 B1.out).mono ?_;rintro e w2 ⟨a7,c7,rfl,k1,hb⟩;have B2 := Lib.hid (bt B1.out hb);obtain ⟨x3,-,-,hz3⟩ := HC.out w2 B2.out;have hz30 : w.heap.size < w2.heap.size := (by omega);have x30 := x3 0;have x33 := x3 3;have HD2 := Lib.hid k1;have HN2 := Lib.hid (HN1.out.same hb);clear k1 hb this x3;have st2 := Lib.hid True.intro)
  | (have := st0;go_at_call 163;clear st0;refine (HMn.out _ (Below.refl _ _)).mono ?_;rintro e w1 ⟨a5,c5,rfl,k1,hb⟩;have B1 := Lib.hid hb;obtain ⟨x1,-,-,hz1⟩ := HC.out w1 B1.out;have hz10 : w.heap.size < w1.heap.size := (by omega);have x12 := x1 2;have x15 := x1 5;have HN1 := Lib.hid k1;clear k1 hb this x1;have st1 := Lib.hid True.intro))
 refine bodyPost_ret (v := .tuple #[.agg #[.bool false,.slice a10 (lim P).length c10,.slice a11 (lim Q).length c11],.int .i64 0]) (by simp [results,Tryz.results102,go_sem,y1]) rfl ⟨a10,c10,a11,c11,rfl,(HFn.out _ _ _ B5.out HP5.out _ ?_).ru,(HFn.out _ _ _ B5.out HQ5.out _ ?_).ru,?_⟩
 ·exact (((Same.refl _ _).setCell (by simp) _).setCell (by simp) _).setCell (by simp) _
 ·exact (((Same.refl _ _).setCell (by simp) _).setCell (by simp) _).setCell (by simp) _
 ·exact ((((Hb0.out.trans (B5.out.mono (by rw [Hz0.out];omega))).setCell (p := ⟨w.heap.size + 1,0,none⟩) (by simp) _).setCell (p := ⟨w.heap.size + 1,1,none⟩) (by simp) _).setCell (p := ⟨w.heap.size + 1,2,none⟩) (by simp) _)
set_option maxHeartbeats 2000000 in
set_option maxRecDepth 100000 in
theorem ratDoesG (g P Q : Nat) (v1 v2 v3 v4 : Value) (m1 n1 m2 n2 : Nat) (w : World) (h1 : Pos w v1 v2 m1 n1) (h2 : Pos w v3 v4 m2 n2) (eg : ∀ args w,(callFunc g args).run Tryz.prog w = .ok (.enter g args) w)
  (hS : ∀ W,Below w.heap.size w W → Calls Tryz.prog g #[.agg #[.bool false,v1,v2,.bool false,v3,v4]] W (GivesPQ P Q W)) :
  Calls Tryz.prog 101 #[.agg #[.bool false,v1,v2,.bool false,v3,v4],.func (.func g) #[.agg #[.bool false,v1,v2,.bool false,v3,v4]] #[]] w (GivesPQ P Q w) := by
 obtain ⟨a1,c1,rfl⟩ := h1.num.shape
 obtain ⟨a2,c2,rfl⟩ := h1.den.shape
 obtain ⟨a3,c3,rfl⟩ := h2.num.shape
 obtain ⟨a4,c4,rfl⟩ := h2.den.shape
 obtain ⟨W0,hW0⟩ : ∃ W0,W0 = (w.alloc (.cells #[.bool false,.slice a1 (lim m1).length c1,.slice a2 (lim n1).length c2,.bool false,.slice a3 (lim m2).length c3,.slice a4 (lim n2).length c4] 127)).alloc (.cells #[.bool false,.slice none 0 0,.slice none 0 0] 56) := ⟨_,rfl⟩
 have hb0 : Below w.heap.size w W0 := by rw [hW0];exact (qa1 w _).alloc (by simp) _
 have hz0 : W0.heap.size = w.heap.size + 2 := by rw [hW0];simp
 have hgA : W0.heap[w.heap.size]? = some (.cells #[.bool false,.slice a1 (lim m1).length c1,.slice a2 (lim n1).length c2,.bool false,.slice a3 (lim m2).length c3,.slice a4 (lim n2).length c4] 127 (0,0)) := by rw [hW0];exact qay _ (qa8 w _)
 have hgB : W0.heap[w.heap.size + 1]? = some (.cells #[.bool false,.slice none 0 0,.slice none 0 0] 56 (0,0)) := by rw [hW0];simpa using qa8 (w.alloc (.cells #[.bool false,.slice a1 (lim m1).length c1,.slice a2 (lim n1).length c2,.bool false,.slice a3 (lim m2).length c3,.slice a4 (lim n2).length c4] 127)) (.cells #[.bool false,.slice none 0 0,.slice none 0 0] 56)
 have hK1 := fun (W : World) (hW : Below W0.heap.size W0 W) => ratCheck Any Any false _ _ _ _ W (((h1.num.same hb0).same hW).ru) (((h1.den.same hb0).same hW).ru)
 have hK2 := fun (W : World) (hW : Below W0.heap.size W0 W) => ratCheck Any Any false _ _ _ _ W (((h2.num.same hb0).same hW).ru) (((h2.den.same hb0).same hW).ru)
 rw [h1.ok] at hK1
 rw [h2.ok] at hK2
 have hSm := fun (W : World) (hW : Below W0.heap.size W0 W) => hS W (bt hb0 hW)
 unfold GivesPQ at hSm
 unfold GivesPQ
 have hcell : ∀ W,Below W0.heap.size W0 W → (∀ i,W.cell? ⟨w.heap.size,i,none⟩ = (#[.bool false,.slice a1 (lim m1).length c1,.slice a2 (lim n1).length c2,.bool false,.slice a3 (lim m2).length c3,.slice a4 (lim n2).length c4] : Array Value)[i]?) ∧ (∀ i,W.cell? ⟨w.heap.size + 1,i,none⟩ = (#[.bool false,.slice none 0 0,.slice none 0 0] : Array Value)[i]?) ∧ (∀ i,W.frozen? ⟨w.heap.size + 1,i,none⟩ = false) ∧ w.heap.size + 1 < W.heap.size := fun W hW => ⟨(qa6 hW (by omega) hgA).2.1,(qa6 hW (by omega) hgB).2.1,(qa6 hW (by omega) hgB).2.2,by have := hW.size;omega⟩
 have hfin : ∀ (w3 : World) v xs,Below W0.heap.size W0 w3 → RU Any w3 v xs → ∀ w',Same (fun b => b ≠ w.heap.size + 1) w3 w' → RU Any w' v xs := fun w3 v xs hW k w' hs => by
  obtain ⟨g1,-,-⟩ := qa6 hW (by omega) hgB
  exact RSl.mono (fun _ _ _ h => h) (fun _ _ => trivial) ((k.avoid g1 (bss_ne _ _ _ (by simp) (by simp))).same hs)
 generalize (lim m1).length = L1 at *
 generalize (lim n1).length = L2 at *
 generalize (lim m2).length = L3 at *
 generalize (lim n2).length = L4 at *
 have HK1 := Lib.hid hK1;have HK2 := Lib.hid hK2;have HSm := Lib.hid hSm;have HC := Lib.hid hcell;have HFn := Lib.hid hfin;have Hb0 := Lib.hid hb0;have Hz0 := Lib.hid hz0
 clear hK1 hK2 hSm hcell hfin hb0 hz0 hgA hgB h1 h2 hS
 have st0 := Lib.hid True.intro
 subst hW0
 go_enter Tryz.func101,Tryz.ntmps101
 go_wp2_with (first
  | (have := st2;go_at_fn g;clear st2;refine (HSm.out w2 B2.out).mono ?_;rintro e w5 ⟨a10,c10,a11,c11,rfl,k1,k2,hb⟩;have B5 := Lib.hid (bt B2.out hb);obtain ⟨-,y1,z1,y3⟩ := HC.out w5 B5.out;have y10 := y1 0;have y11 := y1 1;have y12 := y1 2;have HP5 := Lib.hid k1;have HQ5 := Lib.hid k2;clear k1 k2 hb this)
  | (have := st1;go_at_call 106;clear st1;refine (HK2.out w1 B1.out).mono ?_;rintro e w2 ⟨rfl,hb⟩;have B2 := Lib.hid (bt B1.out hb);clear hb this;have st2 := Lib.hid True.intro)
  | (have := st0;go_at_call 106;clear st0;refine (HK1.out _ (Below.refl _ _)).mono ?_;rintro e w1 ⟨rfl,hb⟩;have B1 := Lib.hid hb;obtain ⟨x1,-,-,-⟩ := HC.out w1 B1.out;have x13 := x1 3;have x14 := x1 4;have x15 := x1 5;clear hb this x1;have st1 := Lib.hid True.intro))
 refine bodyPost_ret (v := .tuple #[.agg #[.bool false,.slice a10 (lim P).length c10,.slice a11 (lim Q).length c11],.int .i64 0]) (by simp [results,Tryz.results101,go_sem,y1]) rfl ⟨a10,c10,a11,c11,rfl,HFn.out _ _ _ B5.out HP5.out _ ?_,HFn.out _ _ _ B5.out HQ5.out _ ?_,?_⟩
 ·exact (((Same.refl _ _).setCell (by simp) _).setCell (by simp) _).setCell (by simp) _
 ·exact (((Same.refl _ _).setCell (by simp) _).setCell (by simp) _).setCell (by simp) _
 ·exact ((((Hb0.out.trans (B5.out.mono (by rw [Hz0.out];omega))).setCell (p := ⟨w.heap.size + 1,0,none⟩) (by simp) _).setCell (p := ⟨w.heap.size + 1,1,none⟩) (by simp) _).setCell (p := ⟨w.heap.size + 1,2,none⟩) (by simp) _)
set_option maxHeartbeats 2000000 in
set_option maxRecDepth 100000 in
theorem ratMul (v1 v2 v3 v4 : Value) (m1 n1 m2 n2 : Nat) (w : World) (h1 : Pos w v1 v2 m1 n1) (h2 : Pos w v3 v4 m2 n2) (f1 : (lim (m1 * m2)).length ≤ 96) (f3 : (lim (n1 * n2)).length ≤ 96) :
  Calls Tryz.prog 45 #[.agg #[.bool false,v1,v2],.agg #[.bool false,v3,v4]] w (GivesPQ (mulN m1 n1 m2 n2) (mulD m1 n1 m2 n2) w) := by
 obtain ⟨a1,c1,rfl⟩ := h1.num.shape
 obtain ⟨a2,c2,rfl⟩ := h1.den.shape
 obtain ⟨a3,c3,rfl⟩ := h2.num.shape
 obtain ⟨a4,c4,rfl⟩ := h2.den.shape
 obtain ⟨W0,hW0⟩ : ∃ W0,W0 = (((w.alloc (.cells #[.bool false,.slice a1 (lim m1).length c1,.slice a2 (lim n1).length c2] 56)).alloc (.cells #[.bool false,.slice a3 (lim m2).length c3,.slice a4 (lim n2).length c4] 56)).alloc (.cells #[.bool false,.slice none 0 0,.slice none 0 0] 56)).alloc (.cells #[.bool false,.slice a1 (lim m1).length c1,.slice a2 (lim n1).length c2,.bool false,.slice a3 (lim m2).length c3,.slice a4 (lim n2).length c4] 127) := ⟨_,rfl⟩
 have hb0 : Below w.heap.size w W0 := by rw [hW0];exact (((qa1 w _).alloc (by simp) _).alloc (by simp;omega) _).alloc (by simp;omega) _
 have hz0 : W0.heap.size = w.heap.size + 4 := by rw [hW0];simp
 have hgB : W0.heap[w.heap.size + 2]? = some (.cells #[.bool false,.slice none 0 0,.slice none 0 0] 56 (0,0)) := by
  rw [hW0]
  refine qay _ ?_
  simpa using qa8 ((w.alloc (.cells #[.bool false,.slice a1 (lim m1).length c1,.slice a2 (lim n1).length c2] 56)).alloc (.cells #[.bool false,.slice a3 (lim m2).length c3,.slice a4 (lim n2).length c4] 56)) (.cells #[.bool false,.slice none 0 0,.slice none 0 0] 56)
 have hD := ratDoesG 102 (mulN m1 n1 m2 n2) (mulD m1 n1 m2 n2) _ _ _ _ m1 n1 m2 n2 W0 (h1.same hb0) (h2.same hb0) (enters_of Tryz.func102 (by kernel_rfl) rfl) (fun W hW => ratProd _ _ _ _ m1 n1 m2 n2 W ((h1.same hb0).same hW).num ((h1.same hb0).same hW).den ((h2.same hb0).same hW).num ((h2.same hb0).same hW).den h1.l1 h1.l2 h2.l1 h2.l2 h1.pos h2.pos f1 f3)
 unfold GivesPQ at hD ⊢
 obtain ⟨P,hP⟩ : ∃ P,mulN m1 n1 m2 n2 = P := ⟨_,rfl⟩
 obtain ⟨Q,hQ⟩ : ∃ Q,mulD m1 n1 m2 n2 = Q := ⟨_,rfl⟩
 simp only [hP,hQ] at hD ⊢
 have hcell : ∀ W,Below W0.heap.size W0 W → (∀ i,W.cell? ⟨w.heap.size + 2,i,none⟩ = (#[.bool false,.slice none 0 0,.slice none 0 0] : Array Value)[i]?) ∧ (∀ i,W.frozen? ⟨w.heap.size + 2,i,none⟩ = false) ∧ w.heap.size + 2 < W.heap.size := fun W hW => ⟨(qa6 hW (by omega) hgB).2.1,(qa6 hW (by omega) hgB).2.2,by have := hW.size;omega⟩
 have hfin : ∀ (w3 : World) v xs,Below W0.heap.size W0 w3 → RU Any w3 v xs → ∀ w',Same (fun b => b ≠ w.heap.size + 2) w3 w' → RU Any w' v xs := fun w3 v xs hW k w' hs => by
  obtain ⟨g1,-,-⟩ := qa6 hW (by omega) hgB
  exact RSl.mono (fun _ _ _ h => h) (fun _ _ => trivial) ((k.avoid g1 (bss_ne _ _ _ (by simp) (by simp))).same hs)
 generalize (lim m1).length = L1 at *
 generalize (lim n1).length = L2 at *
 generalize (lim m2).length = L3 at *
 generalize (lim n2).length = L4 at *
 have HD := Lib.hid hD;have HC := Lib.hid hcell;have HFn := Lib.hid hfin;have Hb0 := Lib.hid hb0;have Hz0 := Lib.hid hz0
 clear hD hcell hfin hb0 hz0 hgB h1 h2 f1 f3 hP hQ
 subst hW0
 go_enter Tryz.func45,Tryz.ntmps45
 go_wp2_with (go_at_call 101;refine HD.out.mono ?_;rintro e w5 ⟨a10,c10,a11,c11,rfl,k1,k2,hb⟩;have B5 := Lib.hid hb;obtain ⟨y1,z1,y3⟩ := HC.out w5 B5.out;have y10 := y1 0;have y11 := y1 1;have y12 := y1 2;have HP5 := Lib.hid k1;have HQ5 := Lib.hid k2;clear k1 k2 hb)
 refine bodyPost_ret (v := .tuple #[.agg #[.bool false,.slice a10 (lim P).length c10,.slice a11 (lim Q).length c11],.int .i64 0]) (by simp [results,Tryz.results45,go_sem,y1]) rfl ⟨a10,c10,a11,c11,rfl,HFn.out _ _ _ B5.out HP5.out _ ?_,HFn.out _ _ _ B5.out HQ5.out _ ?_,?_⟩
 ·exact (((Same.refl _ _).setCell (by simp) _).setCell (by simp) _).setCell (by simp) _
 ·exact (((Same.refl _ _).setCell (by simp) _).setCell (by simp) _).setCell (by simp) _
 ·exact ((((Hb0.out.trans (B5.out.mono (by rw [Hz0.out];omega))).setCell (p := ⟨w.heap.size + 2,0,none⟩) (by simp) _).setCell (p := ⟨w.heap.size + 2,1,none⟩) (by simp) _).setCell (p := ⟨w.heap.size + 2,2,none⟩) (by simp) _)
end

section
open Go Go.RowKit Go.Shelf Limb

theorem or64r (x y : Int) (hx0 : 0 ≤ x) (hx1 : x < 4294967296) (hy0 : 0 ≤ y) (hy1 : y < 4294967296) : bits .or .u64 y (x * 4294967296) = x * 4294967296 + y := by
 obtain ⟨a,rfl⟩ : ∃ a : Nat,x = a := ⟨x.toNat,by omega⟩
 obtain ⟨b,rfl⟩ : ∃ b : Nat,y = b := ⟨y.toNat,by omega⟩
 have h := u64_or_nat b (a * 4294967296) (by omega) (by omega)
 have e : b ||| a * 4294967296 = a * 4294967296 + b := by
  rw [Nat.or_comm]
  have := Nat.shiftLeft_add_eq_or_of_lt (i := 32) (b := b) (by omega) a
  rw [Nat.shiftLeft_eq,show (2 : Nat) ^ 32 = 4294967296 from rfl] at this
  exact this.symm
 rw [e] at h
 rw [show ((a : Int) * 4294967296) = ((a * 4294967296 : Nat) : Int) by omega,h]
 omega
theorem or64z (y : Int) (hy0 : 0 ≤ y) (hy1 : y < 4294967296) : bits .or .u64 0 y = y := by
 obtain ⟨b,rfl⟩ : ∃ b : Nat,y = b := ⟨y.toNat,by omega⟩
 have h := u64_or_nat 0 b (by omega) (by omega)
 rw [Nat.zero_or] at h
 exact h
set_option maxRecDepth 100000 in
set_option maxHeartbeats 1000000 in
theorem natWord (S : Nat → Prop) (v : Value) (n : Nat) (w : World) (h : RU S w v (lim n)) (hn : n < 18446744073709551616) :
  Calls Tryz.prog 179 #[v] w fun e w' => e = .returned (.tuple #[.int .u64 n,.int .i64 0]) ∧ w' = w := by
 have hl : (lim n).length ≤ 2 := qah (k := 2) (by rw [qal,qal,pw_zero];omega)
 have hC := natCheck S v _ w h
 rw [qb1 (by omega)] at hC
 obtain ⟨a,cap,rfl,-,-⟩ := RSl.shape h
 have hv := qap n
 have hlim := lim_Lim n
 obtain ⟨xs,hxs⟩ : ∃ xs,lim n = xs := ⟨_,rfl⟩
 rw [hxs] at h hl hv hlim hC ⊢
 obtain ⟨L,hL⟩ : ∃ L,xs.length = L := ⟨_,rfl⟩
 rw [hL] at h hl hC ⊢
 have HC := Lib.hid hC;have HH := Lib.hid h;have Hv := Lib.hid hv;have Hlim := Lib.hid hlim;have HL := Lib.hid hL
 clear hC h hv hlim hL hxs
 have hL2 : ¬ 2 < L := by omega
 go_enter Tryz.func179,Tryz.ntmps179
 go_wp2_with (go_at_call 166;refine HC.out.mono ?_;rintro e w1 ⟨rfl,rfl⟩)
 go_loopw [2,16] (fun sv i wr => ∃ (k : Nat) (m : Int),k ≤ L ∧ i = .int .i64 k ∧ sv = .int .u64 m ∧ Hid (m = val (xs.take k)) ∧ Hid ((k = 0 → m = 0) ∧ 0 ≤ m ∧ (k ≤ 1 → m < 4294967296)) ∧ wr = w) (fun _ i _ => L - (intOf i).toNat)
 case atStart => exact ⟨0,0,Nat.zero_le _,rfl,rfl,Lib.hid (by simp [val]),Lib.hid ⟨fun _ => rfl,by omega,fun _ => by omega⟩,rfl⟩
 case round =>
  obtain ⟨k,m,hk,rfl,rfl,hm,hk0,rfl⟩ := hrel
  by_cases hlt : k < L
  ·have hlr : k < xs.length := by rw [HL.out]; exact hlt
   obtain ⟨b,off,c,rfl,-,hbl,hc,hx⟩ := RSl.at1 HH.out k hlr
   obtain ⟨rfl,-⟩ := hx.open
   obtain ⟨x0,x1⟩ := Hlim.out _ (List.getElem_mem hlr)
   have hst := qaq hlr
   obtain ⟨y,hy⟩ : ∃ y,xs[k] = y := ⟨_,rfl⟩
   rw [hy] at hc x0 x1 hst
   have hk2 : k = 0 ∨ k = 1 := by omega
   clear hy hx hlr
   rcases hk2 with rfl | rfl
   ·have hm0 := hk0.out.1 rfl
    subst hm0
    simp only [Nat.add_zero] at hc
    have hor := or64z y x0 x1
    have hv1 : y = val (xs.take 1) := by rw [hst,pw_zero];simp [val]
    have Hv1 := Lib.hid hv1;have Hy := Lib.hid (And.intro x0 x1)
    clear hst hv1 hm hk0
    go_wp2
    exact ⟨⟨1,y,by omega,rfl,rfl,Hv1,Lib.hid ⟨fun h => absurd h (by omega),Hy.out.1,fun _ => Hy.out.2⟩,trivial⟩,by simp [intOf];omega⟩
   ·have hor := or64r y m x0 x1 hk0.out.2.1 (hk0.out.2.2 (by omega))
    have hv1 : y * 4294967296 + m = val (xs.take 2) := by rw [hst,← hm.out,qal,pw_zero];omega
    have hnn : 0 ≤ y * 4294967296 + m := by have := hk0.out.2.1;omega
    have Hv1 := Lib.hid hv1;have Hnn := Lib.hid hnn
    clear hst hv1 hnn hm hk0
    go_wp2
    exact ⟨⟨2,_,by omega,rfl,rfl,Hv1,Lib.hid ⟨fun h => absurd h (by omega),Hnn.out,fun h => absurd h (by omega)⟩,trivial⟩,by simp [intOf];omega⟩
  ·obtain rfl : k = L := by omega
   have hfin : m = (n : Int) := by
    have h1 := hm.out
    rw [List.take_of_length_le (by rw [HL.out];exact Nat.le_refl _),Hv.out] at h1
    exact h1
   subst hfin
   clear hm
   go_wp2
   go_ret2
   exact ⟨rfl,rfl⟩
set_option maxRecDepth 100000 in
set_option maxHeartbeats 2000000 in
theorem ratFloor (v1 v2 : Value) (m n : Nat) (w : World) (h : Pos w v1 v2 m n) (hq : m / n < 9223372036854775808) :
  Calls Tryz.prog 117 #[.agg #[.bool false,v1,v2]] w fun e w' => e = .returned (.tuple #[.int .i64 (m / n : Nat),.int .i64 0]) ∧ Below w.heap.size w w' := by
 obtain ⟨a1,c1,rfl⟩ := h.num.shape
 obtain ⟨a2,c2,rfl⟩ := h.den.shape
 obtain ⟨W0,hW0⟩ : ∃ W0,W0 = w.alloc (.cells #[.bool false,.slice a1 (lim m).length c1,.slice a2 (lim n).length c2] 56) := ⟨_,rfl⟩
 have hb0 : Below w.heap.size w W0 := by rw [hW0];exact qa1 w _
 have hg0 : W0.heap[w.heap.size]? = some (.cells #[.bool false,.slice a1 (lim m).length c1,.slice a2 (lim n).length c2] 56 (0,0)) := by rw [hW0];exact qa8 w _
 have hK := ratCheck Any Any false _ _ _ _ W0 ((h.num.same hb0).ru) ((h.den.same hb0).ru)
 rw [h.ok] at hK
 have hD := fun (W : World) (hW : Below W0.heap.size W0 W) => natDivF _ _ m n W ((h.num.same hb0).same hW) ((h.den.same hb0).same hW) h.l1 h.l2 h.pos
 have hWd := fun (W : World) v (hv : RU Any W v (lim (m / n))) => natWord Any v (m / n) W hv (by omega)
 obtain ⟨q,hqq⟩ : ∃ q,m / n = q := ⟨_,rfl⟩
 obtain ⟨r,hr⟩ : ∃ r,m % n = r := ⟨_,rfl⟩
 rw [hqq] at hq hWd ⊢
 simp only [hqq,hr] at hD
 obtain ⟨z,hz⟩ : ∃ z : Int,(q : Int) = z := ⟨_,rfl⟩
 have hz0 : 0 ≤ z := by omega
 have hz1 : z < 9223372036854775808 := by omega
 have hz2 : ¬ 9223372036854775808 < z := by omega
 have hz3 : (z == 9223372036854775808) = false := by simp;omega
 simp only [hz] at hWd ⊢
 obtain ⟨L1,hL1⟩ : ∃ L,(lim m).length = L := ⟨_,rfl⟩
 obtain ⟨L2,hL2⟩ : ∃ L,(lim n).length = L := ⟨_,rfl⟩
 rw [hL1,hL2] at hK hg0 hW0 hD
 rw [hL1,hL2]
 rw [hW0] at hK
 have HK := Lib.hid hK;have HD := Lib.hid hD;have HWd := Lib.hid hWd;have HW0 := Lib.hid hW0;have G0 := Lib.hid hg0;have Hb0 := Lib.hid hb0
 clear hK hD hWd hW0 hg0 hb0 h hq hqq hr hz hL1 hL2
 go_enter Tryz.func117,Tryz.ntmps117
 go_wp2_with (first
  | (go_at_call 106;refine HK.out.mono ?_;rintro e w1 ⟨rfl,hb⟩;rw [← HW0.out] at hb;have q1 := Lib.hid hb;obtain ⟨p0,p1,p2,pl⟩ := box3 G0.out hb;clear hb)
  | (go_at_call 178;refine (HD.out _ q1.out).mono ?_;rintro e w2 ⟨a3,c3,a4,c4,rfl,hQ,-,hb⟩;have HQ := Lib.hid (RSl.mono (fun _ _ _ h => h) (fun _ _ => trivial) hQ);have q2 := Lib.hid (bt q1.out hb);clear p0 p1 p2 pl hQ hb;obtain ⟨p0,p1,p2,pl⟩ := box3 G0.out q2.out)
  | (go_at_call 179;refine (HWd.out _ _ HQ.out).mono ?_;rintro e w3 ⟨rfl,e3⟩;obtain rfl := e3.symm))
 go_ret2
 exact ⟨rfl,bt Hb0.out q2.out⟩
end
end Go.Proofs.YthcbkhfmdginiaaGreat
