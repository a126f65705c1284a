/- Texts of one claim,put together: RefT. -/
import Derived.Test.YthcbkhfmdginiaaGreatRGGreA

namespace Go.Proofs.YthcbkhfmdginiaaGreat
open Go Go.RowKit Go.Shelf Limb

theorem r17in (n : Int) (w : World) : Calls Tryz.prog 142 #[.int .i64 n] w fun e w' => e = .returned (.bool (decide (0 ≤ n ∧ n ≤ 1000000000000000))) ∧ w' = w := by
 by_cases h1 : 0 ≤ n
 ·by_cases h2 : n ≤ 1000000000000000
  ·rw [decide_eq_true ⟨h1, h2⟩]
   have g1 : n ≥ 0 := h1
   go_enter Tryz.func142,Tryz.ntmps142
   go_wp2
   go_ret
   exact ⟨rfl,rfl⟩
  ·rw [decide_eq_false (fun h => h2 h.2)]
   have g1 : n ≥ 0 := h1
   go_enter Tryz.func142,Tryz.ntmps142
   go_wp2
   go_ret
   exact ⟨rfl,rfl⟩
 ·rw [decide_eq_false (fun h => h1 h.1)]
  have g1 : ¬ n ≥ 0 := h1
  go_enter Tryz.func142,Tryz.ntmps142
  go_wp2
  go_ret
  exact ⟨rfl,rfl⟩
set_option maxHeartbeats 1000000 in
theorem r17Ratio (n : Nat) (w : World) (hn : n ≤ 1000000000000000) : Calls Tryz.prog 131 #[.int .i64 n] w (GivesB n w) := by
 have hb0 := qa1 w (.cells #[.bool false,.slice none 0 0,.slice none 0 0] 56)
 obtain ⟨W0,hW0⟩ : ∃ W,W = w.alloc (.cells #[.bool false,.slice none 0 0,.slice none 0 0] 56) := ⟨_,rfl⟩
 have hgA : W0.heap[w.heap.size]? = some (.cells #[.bool false,.slice none 0 0,.slice none 0 0] 56 (0,0)) := by rw [hW0];exact qa8 w _
 have hz0 : W0.heap.size = w.heap.size + 1 := by rw [hW0];simp
 have hIn := fun W => r17in (n : Int) W
 have hall : decide (0 ≤ (n : Int) ∧ (n : Int) ≤ 1000000000000000) = true := by simp;omega
 rw [hall] at hIn
 have hR := fun W => r4OfF n 1000000000 W (by omega) (by omega) (by omega)
 unfold GivesB
 rw [bill_nat]
 simp only
 obtain ⟨xs,hxs⟩ : ∃ xs,lim (n / Nat.gcd n 1000000000) = xs := ⟨_,rfl⟩
 obtain ⟨ys,hys⟩ : ∃ ys,lim (1000000000 / Nat.gcd n 1000000000) = ys := ⟨_,rfl⟩
 rw [hxs,hys] at hR ⊢
 obtain ⟨L1,hL1⟩ : ∃ L,xs.length = L := ⟨_,rfl⟩
 obtain ⟨L2,hL2⟩ : ∃ L,ys.length = L := ⟨_,rfl⟩
 rw [hL1,hL2] at hR
 have HA := Lib.hid hIn;have HR := Lib.hid hR;have HW0 := Lib.hid hW0;have HgA := Lib.hid hgA;have Hz0 := Lib.hid hz0;have Hb0 := Lib.hid hb0
 clear hIn hR hW0 hgA hz0 hb0 hall hxs hys hL1 hL2
 go_enter Tryz.func131,Tryz.ntmps131
 go_wp2_with (first
  | (go_at_call 142;refine (HA.out _).mono ?_;rintro e w1 ⟨rfl,rfl⟩;rw [← HW0.out])
  | (go_at_call 187;refine (HR.out _).mono ?_;rintro e w2 ⟨a,c,a',c',rfl,k1,k2,hb2⟩;have K1 := Lib.hid k1;have K2 := Lib.hid k2;have B2 := Lib.hid hb2;obtain ⟨-,z2,f2⟩ := qa6 B2.out (by rw [Hz0.out];omega) HgA.out;have z20 := z2 0;have z21 := z2 1;have z22 := z2 2;have f20 := f2 0;have f21 := f2 1;have f22 := f2 2;clear k1 k2 hb2 z2 f2))
 have hl : w.heap.size < w2.heap.size := by have := B2.out.size;have := Hz0.out;omega
 refine bodyPost_ret (v := .tuple #[.agg #[.bool false,.slice a L1 c,.slice a' L2 c'],.int .i64 0]) (by simp [results,Tryz.results131,go_sem,z20,z21,z22]) rfl ⟨a,_,c,a',_,c',rfl,?_,?_,?_⟩
 ·refine RSl.mono (fun _ _ _ h => h) (fun b hb => ?_) (RU.same ((((Same.refl (fun b => w.heap.size < b) w2).setCell (p := ⟨w.heap.size, 0, none⟩) (by simp) _).setCell (p := ⟨w.heap.size, 1, none⟩) (by simp) _).setCell (p := ⟨w.heap.size, 2, none⟩) (by simp) _) (RU.mono (T := fun b => w.heap.size < b) (fun b hb => ?_) K1.out))
  ·exact Nat.le_of_lt hb
  ·have hh := hb;have := Hz0.out;simp [From] at hh;omega
 ·refine RSl.mono (fun _ _ _ h => h) (fun b hb => ?_) (RU.same ((((Same.refl (fun b => w.heap.size < b) w2).setCell (p := ⟨w.heap.size, 0, none⟩) (by simp) _).setCell (p := ⟨w.heap.size, 1, none⟩) (by simp) _).setCell (p := ⟨w.heap.size, 2, none⟩) (by simp) _) (RU.mono (T := fun b => w.heap.size < b) (fun b hb => ?_) K2.out))
  ·exact Nat.le_of_lt hb
  ·have hh := hb;have := Hz0.out;simp [From] at hh;omega
 ·exact (((bt Hb0.out (HW0.out ▸ B2.out)).setCell (p := ⟨w.heap.size,0,none⟩) (Nat.le_refl _) _).setCell (p := ⟨w.heap.size,1,none⟩) (Nat.le_refl _) _).setCell (p := ⟨w.heap.size,2,none⟩) (Nat.le_refl _) _
set_option maxHeartbeats 1000000 in
theorem r18Told (S : Nat → Prop) (v : Value) (l : List Int) (w : World) (h : RInts S w v l) (hl : l.length ≤ 1000000) (hn : ∀ x ∈ l,0 ≤ x ∧ x ≤ 1000000000000000) :
  Calls Tryz.prog 66 #[v] w (GivesR (l.map bill) w) := by
 obtain ⟨a,cap,rfl,h1,h2⟩ := RSl.shape h
 have hH := fun W (hW : Below w.heap.size w W) => h.same (.of_below hW)
 have HH := Lib.hid hH;have Hn := Lib.hid hn
 clear hH h hn
 go_enter Tryz.func66,Tryz.ntmps66
 go_wp2
 go_loopw [3,4] (fun s i wr => ∃ k : Nat,k ≤ l.length ∧ i = .int .i64 k ∧ Hid (OwnX w.heap.size 56 3 dRt wr s ((l.take k).map bill)) ∧ Below w.heap.size w wr) (fun _ i _ => l.length - (intOf i).toNat)
 case atStart => exact ⟨0,Nat.zero_le _,rfl,Lib.hid (OwnX.nil _ _ _ _ _),Below.refl _ _⟩
 case round =>
  obtain ⟨k,hk,rfl,hO,hb⟩ := hrel
  obtain ⟨ao,co,hso⟩ := hO.out.shape
  obtain ⟨m,hm⟩ : ∃ m,((l.take k).map bill).length = m := ⟨_,rfl⟩
  rw [hm] at hso
  subst hso
  have hz := hb.size
  by_cases hlt : k < l.length
  ·obtain ⟨b, off, c, rfl, hS, hbw, hc, hx⟩ := RSl.at1 (HH.out wr hb) k hlt
   obtain ⟨rfl,hwf⟩ := hx.open
   obtain ⟨hx0,hx1⟩ := Hn.out _ (List.getElem_mem hlt)
   have hst : (l.take (k + 1)).map bill = (l.take k).map bill ++ [bill l[k]] := by rw [List.take_succ_eq_append_getElem hlt,List.map_append];rfl
   obtain ⟨n,hnx⟩ : ∃ n : Nat,l[k] = (n : Int) := ⟨l[k].toNat,by omega⟩
   rw [hnx] at hc hst hx1
   have hcall := r17Ratio n wr (by omega)
   have hml : ((l.take k).map bill).length ≤ 1000000 := by rw [List.length_map,List.length_take];omega
   have hD : ∀ w1 a1 m1 c1 a2 m2 c2,Below wr.heap.size wr w1 → RU (From wr.heap.size) w1 (.slice a1 m1 c1) (bill n).num → RU (From wr.heap.size) w1 (.slice a2 m2 c2) (bill n).den → dRt (Rg w.heap.size (w1.alloc (.cells #[.bool false,.slice a1 m1 c1,.slice a2 m2 c2] 56)) (.slice ao m co)) (w1.alloc (.cells #[.bool false,.slice a1 m1 c1,.slice a2 m2 c2] 56)) [.bool false,.slice a1 m1 c1,.slice a2 m2 c2] (bill n) := fun w1 a1 m1 c1 a2 m2 c2 hb1 k1 k2 => by
    have hS : ∀ b,Cut (From wr.heap.size) w1.heap.size b → Rg w.heap.size (w1.alloc (.cells #[.bool false,.slice a1 m1 c1,.slice a2 m2 c2] 56)) (.slice ao m co) b := fun b hb' => ⟨Nat.le_trans hz hb'.1,Nat.lt_of_lt_of_le hb'.2 (qa1 w1 _).size,fun e => by have := (Own.lt hO.out b e.symm).2;have := hb'.1;simp only [From] at this;omega⟩
    exact ⟨_,_,by rw [bill_nat],(RU.mono hS k1.cut).below (qa1 _ _),(RU.mono hS k2.cut).below (qa1 _ _)⟩
   have hOw : ∀ w1 a1 m1 c1 a2 m2 c2,Below wr.heap.size wr w1 → OwnX w.heap.size 56 3 dRt (w1.alloc (.cells #[.bool false,.slice a1 m1 c1,.slice a2 m2 c2] 56)) (.slice ao m co) ((l.take k).map bill) ∧ Below w.heap.size w (w1.alloc (.cells #[.bool false,.slice a1 m1 c1,.slice a2 m2 c2] 56)) ∧ w.heap.size ≤ (w1.alloc (.cells #[.bool false,.slice a1 m1 c1,.slice a2 m2 c2] 56)).heap.size := fun w1 a1 m1 c1 a2 m2 c2 hb1 =>
    ⟨OwnX.below famRt (OwnX.below famRt hO.out hb1) (qa1 _ _),bt hb (hb1.trans ((qa1 w1 _).mono hb1.size)),Nat.le_trans hz (Nat.le_trans hb1.size (qa1 w1 _).size)⟩
   have Hst := Lib.hid hst;have HC := Lib.hid hcall;have Hml := Lib.hid hml;have HD := Lib.hid hD;have HOw := Lib.hid hOw
   clear hst hcall hml hD hOw hnx hm hO
   go_wp2_with (first
    | (go_at_call 131;refine HC.out.mono ?_;rintro e w1 ⟨a1,m1,c1,a2,m2,c2,rfl,k1,k2,hb1⟩;have HD1 := Lib.hid (HD.out _ _ _ _ _ _ _ hb1 k1 k2);have HO1 := Lib.hid (HOw.out _ a1 m1 c1 a2 m2 c2 hb1);clear k1 k2 hb1)
    | (at_builtin;go_must (refine wpList_appE _ Tryz.infoRt rfl rfl Tryz.underlying53 ⟨rfl,by omega,by omega,by omega⟩ famRt w.heap.size HO1.out.1 rfl (cs := [.bool false,.slice a1 m1 c1,.slice a2 m2 c2]) rfl HD1.out (by show Value.slice _ _ _ = _;simp [go_sem]) Hml.out HO1.out.2.2 ?_);intro a3 n3 c3 w3 ho3 hb3;have Ho3 := Lib.hid ho3;have Hb3 := Lib.hid (hb3 _ _ (Nat.le_refl _) HO1.out.2.1);clear ho3 hb3))
   exact ⟨⟨k + 1,by omega,by go_num,Lib.hid (by rw [Hst.out];exact Ho3.out),Hb3.out⟩,by simp [intOf];omega⟩
  ·obtain rfl : k = l.length := by omega
   have hO2 := hO.out
   rw [List.take_length] at hO2
   have HO2 := Lib.hid hO2
   clear hO2 hO hm
   go_wp2
   go_ret
   exact ⟨_,rfl,HO2.out,hb⟩
end Go.Proofs.YthcbkhfmdginiaaGreat
