/- Texts of one claim,put together: ChoB,ChoC,ChoD,ChoE,ChoF,ChoG,ChoI,ChoJ,ChoK,ChoL,ChoN,ChoP. -/
import Derived.Test.YthcbkhfmdginiaaGreatRGRul
import Derived.Test.YthcbkhfmdginiaaGreatRGPut
import Derived.Test.YthcbkhfmdginiaaGreatRGFoot
import Derived.Test.YthcbkhfmdginiaaGreatRGOne
import Derived.Test.YthcbkhfmdginiaaGreatRGRead
import Derived.Test.YthcbkhfmdginiaaGreatRGAdd
import Derived.Deep.RegionWith
import Derived.Sort.OwnSortedInts
import Derived.Shelf.RegionOpen
import Derived.TacticsInMore
import Derived.LoopNIn
import Derived.LoopIn

namespace Go.Proofs.YthcbkhfmdginiaaGreat
section
open Go Go.RowKit Go.Shelf

theorem best_one (f : Int → Int) (x : Int) : bestL f [x] = [x] := by simp [bestL]
set_option maxHeartbeats 2000000 in
set_option maxRecDepth 100000 in
theorem choBest (S : Nat → Prop) (v : Value) (l : List Int) (w : World) (h : RInts S w v l) (hl : l.length ≤ 1000000) (g : Nat) (lb : Array Value) (eg : ∀ args w,(callFunc g args).run Tryz.prog w = .ok (.enter g args) w) (f : Int → Int)
  (hf : ∀ W x,Below w.heap.size w W → x ∈ l → Calls Tryz.prog g (#[.int .i64 x] ++ lb) W fun e w' => e = .returned (.int .i64 (f x)) ∧ Below W.heap.size W w') :
  Calls Tryz.prog 125 #[v,.func (.func g) #[] lb] w (GivesI (bestL f l) w) := by
 obtain ⟨a,cap,rfl,h1,h2⟩ := RSl.shape h
 have hH := fun W (hW : Below w.heap.size w W) => h.same (.of_below hW)
 have hwf := RInts.wf h
 have HH := Lib.hid hH;have HF := Lib.hid hf;have Hwf := Lib.hid hwf
 clear hH hf hwf h
 go_enter Tryz.func125,Tryz.ntmps125
 go_wp2
 go_loopw [4,6,9] (fun s _ i wr => ∃ k : Nat,k ≤ l.length ∧ i = .int .i64 k ∧ Hid (Own w.heap.size 3 1 (dInt .i64) wr s (bestL f (l.take k))) ∧ Below w.heap.size w wr) (fun _ _ i _ => l.length - (intOf i).toNat)
 case atStart => exact ⟨0,Nat.zero_le _,rfl,Lib.hid (Own.nil _ _ _ _ _),Below.refl _ _⟩
 case round =>
  obtain ⟨k,hk,rfl,hO,hb⟩ := hrel
  obtain ⟨ao,co,hso⟩ := Own.shape hO.out
  obtain ⟨m,hm⟩ : ∃ m,(bestL f (l.take k)).length = m := ⟨_,rfl⟩
  rw [hm] at hso
  subst hso
  have hz := hb.size
  by_cases hlt : k < l.length
  ·obtain ⟨b, off, c, rfl, hS, hbw, hc, hx⟩ := RSl.at1 (HH.out wr hb) k hlt
   obtain ⟨rfl,hwfx⟩ := hx.open
   have hxm : l[k] ∈ l := List.getElem_mem hlt
   have htk := List.take_succ_eq_append_getElem hlt
   obtain ⟨x,hxe⟩ : ∃ x,l[k] = x := ⟨_,rfl⟩
   rw [hxe] at hc hwfx hxm htk
   have hml : m ≤ 1000000 := by rw [← hm];exact Nat.le_trans (List.length_filter_le _ _) (by rw [List.length_take];omega)
   have hne1 := fun (W : World) (hW : w.heap.size ≤ W.heap.size) => (show Own w.heap.size 3 1 (dInt .i64) (W.alloc (.cells #[.int .i64 x] 3)) (.slice (some ⟨W.heap.size,0,none⟩) 1 1) [x] from Own.one (cs := [.int .i64 x]) (qa8 W _) hW rfl ⟨rfl,hwfx⟩)
   rcases Nat.eq_zero_or_pos m with hm0 | hm0
   ·have hk0 : l.take k = [] := by
     rcases Nat.eq_zero_or_pos k with e | e
     ·rw [e,List.take_zero]
     ·exfalso
      have : l.take k ≠ [] := fun e2 => by have := congrArg List.length e2;rw [List.length_take,List.length_nil] at this;omega
      have := bestL_ne (f := f) this
      exact this (List.eq_nil_of_length_eq_zero (by omega))
    subst hm0
    have hnx : bestL f (l.take (k + 1)) = [x] := by rw [htk,hk0,List.nil_append];exact best_one f x
    have Hnx := Lib.hid hnx;have Hne := Lib.hid hne1
    clear hnx hne1 htk hk0 hm hO hxe hml
    obtain ⟨W1,hW1⟩ : ∃ W1,W1 = wr := ⟨_,rfl⟩
    have hb1 : Below w.heap.size w W1 := by rw [hW1];exact hb
    have hzW := hb1.size
    clear hb hz
    go_wp2
    rw [← hW1]
    clear hW1
    refine qa3 (by kernel_rfl) (by kernel_rfl) ?_
    repeat (go_big_quiet_step ((fail)))
    refine wpQuiet_nil ?_
    intro w2 hw'
    have hb12 : Below W1.heap.size W1 w2 := by obtain ⟨p,rfl⟩ := hw';exact qa4 W1 p
    clear hw' 
    have hb2 := hb1.trans (hb12.mono hzW)
    have hz2 := hb2.size
    go_wp2
    exact ⟨⟨k + 1,by omega,by go_num,Lib.hid (by rw [Hnx.out];exact Hne.out w2 hz2),hb2.alloc hz2 _⟩,by simp [intOf];omega⟩
   ·have hkne : l.take k ≠ [] := fun e => by rw [e] at hm; simp [bestL] at hm; omega
    obtain ⟨M,t1,t2,t3⟩ := bestL_top (f := f) hkne
    obtain ⟨W1,hW1⟩ : ∃ W1,W1 = wr := ⟨_,rfl⟩
    have hb1 : Below w.heap.size w W1 := by rw [hW1];exact hb
    have hzW := hb1.size
    have hO1 : Own w.heap.size 3 1 (dInt .i64) W1 (.slice ao m co) (bestL f (l.take k)) := by rw [hW1];exact hO.out
    obtain ⟨b0,off0,c0,rfl,-,hbw0,hc0,hx0⟩ := RSl.at1 (Own.rsl hO1 (by omega)) 0 (by omega)
    obtain ⟨rfl,-⟩ := hx0.open
    have hom : (bestL f (l.take k))[0]'(by omega) ∈ bestL f (l.take k) := List.getElem_mem _
    have hoM := t3 _ hom
    have hol : (bestL f (l.take k))[0]'(by omega) ∈ l := List.mem_of_mem_take (qak.1 hom).1
    obtain ⟨o,hoe⟩ : ∃ o,(bestL f (l.take k))[0]'(by omega) = o := ⟨_,rfl⟩
    rw [hoe] at hc0 hoM hol
    simp only [Nat.add_zero] at hc0
    obtain ⟨fx,hfx⟩ : ∃ fx,f x = fx := ⟨_,rfl⟩
    have hX := fun (W : World) (hW : Below w.heap.size w W) => HF.out W x hW hxm
    have hX0 := fun (W : World) (hW : Below w.heap.size w W) => HF.out W o hW hol
    rw [hfx] at hX
    rw [hoM] at hX0
    have h1 := fun p => hX (ext W1 p) (hb1.trans ((qa4 W1 p).mono hzW))
    have h2 := fun p => hX0 (ext W1 p) (hb1.trans ((qa4 W1 p).mono hzW))
    have e1 := fun p => qa7 (w := W1) hc0 p
    have hmq : ((m : Nat) == 0) = false := by simpa using (by omega : ¬ m = 0)
    have hmq2 : (((m : Nat) : Int) == 0) = false := by simp;omega
    have hm2 : (0 : Int) < (m : Int) := by omega
    have HX := Lib.hid h1;have HO0 := Lib.hid h2;have HXW := Lib.hid hX;have HOW := Lib.hid hX0
    have HO1 := Lib.hid hO1;have Hne := Lib.hid hne1;have Hm := Lib.hid hm
    have hc0l := qag hc0
    rcases Int.lt_trichotomy M fx with hc1 | hc1 | hc1
    ·have Hnx := Lib.hid (show bestL f (l.take (k + 1)) = [x] by rw [htk]; exact bestL_up t2 (.inl (by rw [hfx]; exact hc1)))
     have hd : decide (fx > M) = true := decide_eq_true hc1
     clear h1 h2 hX hX0 hO1 hne1 hm t1 t2 t3 hom hoM hol hoe hfx htk hkne hO hb hz hx0 hxe
     go_wp2
     rw [← hW1]
     clear hW1
     refine qa3 (by kernel_rfl) (by kernel_rfl) ?_
     repeat (go_big_quiet_step ((first | (go_at_fn g;have hh := HX.out;exact qab (v := .int .i64 fx) (hh _)) | (go_at_fn g;have hh := HO0.out;exact qab (v := .int .i64 M) (hh _)))))
     refine wpQuiet_nil ?_
     intro w2 hw'
     have hb12 : Below W1.heap.size W1 w2 := by obtain ⟨p,rfl⟩ := hw';exact qa4 W1 p
     clear hw' e1
     have hb2 := hb1.trans (hb12.mono hzW)
     have hz2 := hb2.size
     go_wp2
     exact ⟨⟨k + 1,by omega,by go_num,Lib.hid (by rw [Hnx.out];exact Hne.out w2 hz2),hb2.alloc hz2 _⟩,by simp [intOf];omega⟩
    ·have Hnx := Lib.hid (show bestL f (l.take (k + 1)) = bestL f (l.take k) ++ [x] by rw [htk]; exact bestL_same t1 t2 (by rw [hfx, hc1]))
     subst hc1
     have hd : decide (M > M) = false := by simp
     have hd2 : (M == M) = true := by simp
     clear h1 h2 hX hX0 hO1 hne1 hm t1 t2 t3 hom hoM hol hoe hfx htk hkne hO hb hz hx0 hxe
     go_wp2
     rw [← hW1]
     clear hW1
     refine qa3 (by kernel_rfl) (by kernel_rfl) ?_
     repeat (go_big_quiet_step ((first | (go_at_fn g;have hh := HX.out;exact qab (v := .int .i64 M) (hh _)) | (go_at_fn g;have hh := HO0.out;exact qab (v := .int .i64 M) (hh _)))))
     refine wpQuiet_nil ?_
     intro w2 hw'
     have hb12 : Below W1.heap.size W1 w2 := by obtain ⟨p,rfl⟩ := hw';exact qa4 W1 p
     clear hw' e1
     have hb2 := hb1.trans (hb12.mono hzW)
     have hz2 := hb2.size
     have hc2 := (hb12.cell (p := ⟨_,_,none⟩) hc0l).trans hc0
     have e2 := fun p => qa7 (w := w2) hc2 p
     have h1 := fun p => HXW.out (ext w2 p) (hb2.trans ((qa4 w2 p).mono hz2))
     have h2 := fun p => HOW.out (ext w2 p) (hb2.trans ((qa4 w2 p).mono hz2))
     have HX := Lib.hid h1;have HO0 := Lib.hid h2
     have HO2 := Lib.hid (Own.below (S := fun _ => False) (dInt.stable _ _) HO1.out hb12)
     clear h1 h2
     go_wp2
     refine qa3 (by kernel_rfl) (by kernel_rfl) ?_
     repeat (go_big_quiet_step ((first | (go_at_fn g;have hh := HX.out;exact qab (v := .int .i64 M) (hh _)) | (go_at_fn g;have hh := HO0.out;exact qab (v := .int .i64 M) (hh _)))))
     refine wpQuiet_nil ?_
     intro w3 hw'
     have hb23 : Below w2.heap.size w2 w3 := by obtain ⟨p,rfl⟩ := hw';exact qa4 w2 p
     clear hw' e2
     have hb3 := hb2.trans (hb23.mono hz2)
     have hz3 := hb3.size
     have HO3 := Lib.hid (Own.below (S := fun _ => False) (dInt.stable _ _) HO2.out hb23)
     go_wp2_with (at_builtin;go_must (refine wpList_appI w3 Tryz.infoInt rfl rfl Tryz.underlying25 w.heap.size HO3.out rfl rfl hwfx (by rw [Hm.out];exact hml) hz3 ?_);intro a5 n5 c5 w5 ho5 hb5;have Ho5 := Lib.hid ho5;have Hb5 := Lib.hid (hb5 _ _ (Nat.le_refl _) hb3);clear ho5 hb5)
     exact ⟨⟨k + 1,by omega,by go_num,Lib.hid (by rw [Hnx.out];exact Ho5.out),Hb5.out⟩,by simp [intOf];omega⟩
    ·have Hnx := Lib.hid (show bestL f (l.take (k + 1)) = bestL f (l.take k) by rw [htk]; exact bestL_down t1 t2 (by rw [hfx]; exact hc1))
     have hd : decide (fx > M) = false := decide_eq_false (by omega)
     have hd2 : (fx == M) = false := beq_eq_false_iff_ne.2 (by omega)
     clear h1 h2 hX hX0 hO1 hne1 hm t1 t2 t3 hom hoM hol hoe hfx htk hkne hO hb hz hx0 hxe
     go_wp2
     rw [← hW1]
     clear hW1
     refine qa3 (by kernel_rfl) (by kernel_rfl) ?_
     repeat (go_big_quiet_step ((first | (go_at_fn g;have hh := HX.out;exact qab (v := .int .i64 fx) (hh _)) | (go_at_fn g;have hh := HO0.out;exact qab (v := .int .i64 M) (hh _)))))
     refine wpQuiet_nil ?_
     intro w2 hw'
     have hb12 : Below W1.heap.size W1 w2 := by obtain ⟨p,rfl⟩ := hw';exact qa4 W1 p
     clear hw' e1
     have hb2 := hb1.trans (hb12.mono hzW)
     have hz2 := hb2.size
     have hc2 := (hb12.cell (p := ⟨_,_,none⟩) hc0l).trans hc0
     have e2 := fun p => qa7 (w := w2) hc2 p
     have h1 := fun p => HXW.out (ext w2 p) (hb2.trans ((qa4 w2 p).mono hz2))
     have h2 := fun p => HOW.out (ext w2 p) (hb2.trans ((qa4 w2 p).mono hz2))
     have HX := Lib.hid h1;have HO0 := Lib.hid h2
     have HO2 := Lib.hid (Own.below (S := fun _ => False) (dInt.stable _ _) HO1.out hb12)
     clear h1 h2
     go_wp2
     refine qa3 (by kernel_rfl) (by kernel_rfl) ?_
     repeat (go_big_quiet_step ((first | (go_at_fn g;have hh := HX.out;exact qab (v := .int .i64 fx) (hh _)) | (go_at_fn g;have hh := HO0.out;exact qab (v := .int .i64 M) (hh _)))))
     refine wpQuiet_nil ?_
     intro w3 hw'
     have hb23 : Below w2.heap.size w2 w3 := by obtain ⟨p,rfl⟩ := hw';exact qa4 w2 p
     clear hw' e2
     have hb3 := hb2.trans (hb23.mono hz2)
     have HO3 := Lib.hid (Own.below (S := fun _ => False) (dInt.stable _ _) HO2.out hb23)
     go_wp2
     exact ⟨⟨k + 1,by omega,by go_num,Lib.hid (by rw [Hnx.out];exact HO3.out),hb3⟩,by simp [intOf];omega⟩
  ·obtain rfl : k = l.length := by omega
   have hO2 := hO.out
   rw [List.take_length] at hO2
   have HO2 := Lib.hid hO2
   clear hO2 hO hm
   go_wp2
   go_ret
   exact ⟨_,rfl,HO2.out,hb⟩
end

section
open Go Go.RowKit Go.Shelf

set_option maxHeartbeats 1000000 in
theorem slMin (S : Nat → Prop) (v : Value) (l : List Int) (w : World) (h : RInts S w v l) (hne : l ≠ []) (g : Nat) (lb : Array Value) (eg : ∀ args w,(callFunc g args).run Tryz.prog w = .ok (.enter g args) w) (key : Int → Int)
  (hf : ∀ W x y,Below w.heap.size w W → x ∈ l → y ∈ l → Calls Tryz.prog g (#[.int .i64 x,.int .i64 y] ++ lb) W fun e w' => e = .returned (.int .i64 (key x - key y)) ∧ Below W.heap.size W w') :
  Calls Tryz.prog 213 #[v,.func (.func g) #[] lb] w fun e w' => ∃ m,m ∈ l ∧ e = .returned (.int .i64 m) ∧ (∀ y ∈ l,key m ≤ key y) ∧ Below w.heap.size w w' := by
 have hl0 : 0 < l.length := List.length_pos_iff.2 hne
 have hl63 : l.length ≤ 140737488355328 := by obtain ⟨_,_,-,-,k⟩ := RSl.shape h;exact k
 have hH := fun W (hW : Below w.heap.size w W) => h.same (.of_below hW)
 obtain ⟨b,off,cap,c,rfl,hS,hc,hx⟩ := RSl.get1 h 0 hl0
 obtain ⟨rfl,-⟩ := hx.open
 have hcap := RSl.cap h
 have hm0 : l[0] ∈ l := List.getElem_mem hl0
 have ht1 : ∀ y ∈ l.take 1,key l[0] ≤ key y := fun y hy => by
  obtain ⟨i,hi,rfl⟩ := List.mem_take_iff_getElem.1 hy
  obtain rfl : i = 0 := by omega
  exact Int.le_refl _
 obtain ⟨m0,hm0e⟩ : ∃ m,l[0] = m := ⟨_,rfl⟩
 rw [hm0e] at hc hm0 ht1
 have hblt := qag hc
 simp only [Nat.add_zero] at hc
 have hn1 : ¬ ((l.length : Nat) : Int) < 1 := by omega
 have hn0 : (0 : Int) < (l.length : Nat) := by omega
 have HH := Lib.hid hH;have HF := Lib.hid hf;have Hm0 := Lib.hid hm0;have Ht1 := Lib.hid ht1
 clear hH hf hm0 ht1 h hx hm0e hne
 obtain ⟨n,hn⟩ : ∃ n,l.length = n := ⟨_,rfl⟩
 rw [hn] at hn1 hn0 hl0 hcap HH hl63 ⊢
 have Hn := Lib.hid hn
 clear hn
 go_enter Tryz.func213,Tryz.ntmps213
 go_wp2
 go_loopw [5,6] (fun mv i wr => ∃ (k : Nat) (m : Int),1 ≤ k ∧ k ≤ n ∧ i = .int .i64 k ∧ mv = .int .i64 m ∧ Hid (m ∈ l) ∧ Hid (∀ y ∈ l.take k,key m ≤ key y) ∧ Below w.heap.size w wr) (fun _ i _ => n - (intOf i).toNat)
 case atStart => exact ⟨1,m0,Nat.le_refl _,hl0,rfl,rfl,Hm0,Ht1,Below.refl _ _⟩
 case round =>
  obtain ⟨k,m,hk1,hk,rfl,rfl,hm,ht,hb⟩ := hrel
  have hz := hb.size
  by_cases hlt : k < n
  ·have hlr : k < l.length := by rw [Hn.out]; exact hlt
   obtain ⟨b',off',c,e1,-,hbw,hck,hx⟩ := RSl.at1 (HH.out wr hb) k hlr
   simp only [Option.some.injEq,Addr.mk.injEq,and_true] at e1
   obtain ⟨rfl,rfl⟩ := e1
   obtain ⟨rfl,-⟩ := hx.open
   have hxm : l[k] ∈ l := List.getElem_mem hlr
   have htk := List.take_succ_eq_append_getElem hlr
   obtain ⟨x,hxe⟩ : ∃ x,l[k] = x := ⟨_,rfl⟩
   rw [hxe] at hck hxm htk
   have hcall := HF.out wr x m hb hxm hm.out
   obtain ⟨d,hd⟩ : ∃ d,key x - key m = d := ⟨_,rfl⟩
   rw [hd] at hcall
   by_cases hneg : d < 0
   ·have hnx : ∀ y ∈ l.take (k + 1), key x ≤ key y := fun y hy => by
     rw [htk] at hy
     rcases List.mem_append.1 hy with hy | hy
     ·have := ht.out y hy;omega
     ·rw [List.mem_singleton.1 hy];exact Int.le_refl _
    have HC := Lib.hid hcall;have Hnx := Lib.hid hnx;have Hxm := Lib.hid hxm
    clear hcall hnx hd htk hxe hx hxm
    go_wp2_with (go_at_fn g;refine HC.out.mono ?_;rintro e w2 ⟨rfl,hb2⟩;have hck2 := (hb2.cell (p := ⟨_,_,none⟩) hbw).trans hck;have hbw2 := Nat.lt_of_lt_of_le hbw hb2.size;have hb3 := hb.trans (hb2.mono hz))
    exact ⟨⟨k + 1,x,by omega,by omega,by go_num,rfl,Hxm,Hnx,hb3⟩,by simp [intOf];omega⟩
   ·have hnx : ∀ y ∈ l.take (k + 1), key m ≤ key y := fun y hy => by
     rw [htk] at hy
     rcases List.mem_append.1 hy with hy | hy
     ·exact ht.out y hy
     ·rw [List.mem_singleton.1 hy];omega
    have HC := Lib.hid hcall;have Hnx := Lib.hid hnx
    clear hcall hnx hd htk hxe hx hxm
    go_wp2_with (go_at_fn g;refine HC.out.mono ?_;rintro e w2 ⟨rfl,hb2⟩;have hb3 := hb.trans (hb2.mono hz))
    exact ⟨⟨k + 1,m,by omega,by omega,by go_num,rfl,hm,Hnx,hb3⟩,by simp [intOf];omega⟩
  ·obtain rfl : k = n := by omega
   have hall : ∀ y ∈ l,key m ≤ key y := by have := ht.out;rwa [List.take_of_length_le (by rw [Hn.out];exact Nat.le_refl _)] at this
   have Hall := Lib.hid hall
   clear hall
   go_wp2
   go_ret
   exact ⟨m,hm.out,rfl,Hall.out,hb⟩
set_option maxHeartbeats 1000000 in
theorem choFirst1 (S : Nat → Prop) (lot : List Int) (x y : Int) (w : World) (bC g : Nat) (ve vr vt vl : Value) (hC : w.heap[bC]? = some (.cells #[.pointer (some ⟨g,0,none⟩)] 86 (0,0))) (hG : w.heap[g]? = some (.cells #[ve,vr,vt,vl] 97 (0,0)))
  (h : RInts S w vl lot) (hx : x ∈ lot) (hy : y ∈ lot) (hl : lot.length ≤ 1000000) :
  Calls Tryz.prog 214 (#[.int .i64 x,.int .i64 y] ++ #[.pointer (some ⟨bC,0,none⟩)]) w fun e w' => e = .returned (.int .i64 ((lot.idxOf x : Nat) - (lot.idxOf y : Nat))) ∧ Below w.heap.size w w' := by
 obtain ⟨a,cap,rfl,-,-⟩ := RSl.shape h
 have hi := List.idxOf_lt_length_of_mem hx
 have hj := List.idxOf_lt_length_of_mem hy
 have hIx := fun p => (slIndex S _ lot x (ext w p) (h.same (.of_below (qa4 w p)))).mono fun _ _ ⟨k1,k2⟩ => (And.intro k1 k2.symm)
 have hIy := fun p => (slIndex S _ lot y (ext w p) (h.same (.of_below (qa4 w p)))).mono fun _ _ ⟨k1,k2⟩ => (And.intro k1 k2.symm)
 rw [idxOf_eq hx] at hIx
 rw [idxOf_eq hy] at hIy
 obtain ⟨I,hI⟩ : ∃ I : Int,((lot.idxOf x : Nat) : Int) = I := ⟨_,rfl⟩
 obtain ⟨J,hJ⟩ : ∃ J : Int,((lot.idxOf y : Nat) : Int) = J := ⟨_,rfl⟩
 have b1 : 0 ≤ I ∧ I ≤ 1000000 := by omega
 have b2 : 0 ≤ J ∧ J ≤ 1000000 := by omega
 rw [hI] at hIx
 rw [hJ] at hIy
 rw [hI,hJ]
 obtain ⟨L,hL⟩ : ∃ L,lot.length = L := ⟨_,rfl⟩
 rw [hL] at hIx hIy hG
 obtain ⟨-,cc,-⟩ := qa6 (Below.refl _ w) (qa0 hC) hC
 obtain ⟨-,gc,-⟩ := qa6 (Below.refl _ w) (qa0 hG) hG
 have e1 := fun p => qa7 (w := w) (cc 0 : w.cell? ⟨bC,0,none⟩ = some (.pointer (some ⟨g,0,none⟩))) p
 have e2 := fun p => qa7 (w := w) (gc 3 : w.cell? ⟨g,3,none⟩ = some (.slice a L cap)) p
 have hw : IntKind.i64.wrap (I - J) = I - J := by rw [IntKind.wrap_i64];omega
 have HIx := Lib.hid hIx;have HIy := Lib.hid hIy
 clear hIx hIy hC hG h hx hy hl hi hj hI hJ hL cc gc b1 b2
 go_enter Tryz.func214,Tryz.ntmps214
 go_wp2
 refine qa3 (by kernel_rfl) (by kernel_rfl) ?_
 repeat (go_big_quiet_step ((first | (go_at_call_of 215 (x);have hh := HIx.out;exact calls_ext' (v := .int .i64 I) (hh _)) | (go_at_call_of 215 (y);have hh := HIy.out;exact calls_ext' (v := .int .i64 J) (hh _)))))
 refine wpQuiet_nil ?_
 intro w2 hw'
 have hb12 : Below w.heap.size w w2 := by obtain ⟨p,rfl⟩ := hw';exact qa4 w p
 clear hw' e1 e2
 go_wp2
 go_ret
 exact ⟨rfl,hb12⟩
end

section
open Go Go.RowKit Go.Shelf

set_option maxHeartbeats 1000000 in
theorem choFirst (S T : Nat → Prop) (v : Value) (lot among : List Int) (w : World) (g : Nat) (ve vr vt vl : Value) (hG : w.heap[g]? = some (.cells #[ve,vr,vt,vl] 97 (0,0))) (hL : RInts S w vl lot) (h : RInts T w v among) (hne : among ≠ []) (hin : ∀ x ∈ among,x ∈ lot) (hl : lot.length ≤ 1000000) :
  Calls Tryz.prog 184 #[.pointer (some ⟨g,0,none⟩),v] w fun e w' => e = .returned (.int .i64 (firstL lot among)) ∧ Below w.heap.size w w' := by
 obtain ⟨W1,hW1⟩ : ∃ W1,W1 = w.alloc (.cells #[.pointer (some ⟨g,0,none⟩)] 86) := ⟨_,rfl⟩
 have hb0 : Below w.heap.size w W1 := by rw [hW1];exact qa1 w _
 have hC : W1.heap[w.heap.size]? = some (.cells #[.pointer (some ⟨g,0,none⟩)] 86 (0,0)) := by rw [hW1];exact qa8 w _
 have hG1 := (hb0.block g (qa0 hG)).trans hG
 have hM := slMin T v among W1 (h.same (.of_below hb0)) hne 214 #[.pointer (some ⟨w.heap.size,0,none⟩)] (enters_of Tryz.func214 (by kernel_rfl) rfl) (fun x => (lot.idxOf x : Nat))
  (fun W x y hW hx hy => choFirst1 S lot x y W w.heap.size g ve vr vt vl ((hW.block _ (qa0 hC)).trans hC) ((hW.block _ (qa0 hG1)).trans hG1) ((hL.same (.of_below hb0)).same (.of_below hW)) (hin x hx) (hin y hy) hl)
 have hM2 := hM.mono fun e w' ⟨m,k1,k2,k3,k4⟩ => (show e = Ending.returned (.int .i64 (firstL lot among)) ∧ Below w.heap.size w w' from ⟨by rw [k2,firstL_min k1 (hin m k1) fun y hy => Int.ofNat_le.1 (k3 y hy)],hb0.trans (k4.mono hb0.size)⟩)
 obtain ⟨F,hF⟩ : ∃ F,firstL lot among = F := ⟨_,rfl⟩
 rw [hF] at hM2 ⊢
 obtain ⟨a,cap,rfl,-,-⟩ := RSl.shape h
 obtain ⟨n,hn⟩ : ∃ n,among.length = n := ⟨_,rfl⟩
 rw [hn] at hM2 ⊢
 rw [hW1] at hM2
 have HM := Lib.hid hM2
 clear hM hM2 hF hn h hL hG hG1 hC hb0 hW1 hin hne
 go_enter Tryz.func184,Tryz.ntmps184
 go_wp2_with (go_at_call 213;refine HM.out.mono ?_;rintro e w2 ⟨rfl,hb2⟩)
 go_ret
 exact ⟨rfl,hb2⟩
end

section
open Go Go.RowKit Go.Shelf

set_option maxHeartbeats 1000000 in
theorem choOf (S : Nat → Prop) (v : Value) (lot : List Int) (w : World) (h : RInts S w v lot) (hl : lot.length ≤ 1000000) :
  Calls Tryz.prog 62 #[v] w fun e w' => ∃ g vl,e = .returned (.pointer (some ⟨g,0,none⟩)) ∧ w'.heap[g]? = some (.cells #[.slice none 0 0,.slice none 0 0,.slice none 0 0,vl] 97 (0,0)) ∧ RInts (fun b => w.heap.size ≤ b ∧ b < g) w' vl lot ∧ w.heap.size ≤ g ∧ g + 1 = w'.heap.size ∧ Below w.heap.size w w' := by
 have hC := cloneInts S v lot w h (by omega)
 obtain ⟨a,cap,rfl,-,-⟩ := RSl.shape h
 have HC := Lib.hid hC
 clear hC h
 go_enter Tryz.func62,Tryz.ntmps62
 go_wp2_with (go_at_call 120;refine HC.out.mono ?_;rintro e w1 ⟨v1,rfl,ho1,hb1⟩;obtain ⟨a1,m1,c1,rfl⟩ := Own.slice ho1;have Ho1 := Lib.hid ho1;have Hb1 := Lib.hid hb1;clear ho1 hb1)
 go_ret
 have hr : RSl (Cut (From w.heap.size) w1.heap.size) 1 (dInt .i64) w1 (.slice a1 m1 c1) lot := RSl.cut (by omega) (fun _ _ h => h) (Own.rsl Ho1.out (by omega))
 have hr2 : RInts (fun b => w.heap.size ≤ b ∧ b < w1.heap.size) w1 (.slice a1 m1 c1) lot := RSl.mono (fun _ _ _ h => h) (fun b hb => hb) hr
 exact ⟨_,_,rfl,qa8 w1 _,RInts.same (.of_below (qa1 _ _)) hr2,Hb1.out.size,by simp,Hb1.out.alloc Hb1.out.size _⟩
end

section
open Go Go.RowKit Go.Shelf

def TellR (base g : Nat) (S : Nat → Prop) (ve vr vt vl : Value) (ts : List Tie) (w w' : World) : Prop :=
 ∃ vt',w'.heap[g]? = some (.cells #[ve,vr,vt',vl] 97 (0,0)) ∧ Own base 115 2 (dTie fun b => S b ∨ (w.heap.size ≤ b ∧ b < w'.heap.size ∧ some b ≠ vt'.ownBlock)) w' vt' ts ∧
  (∀ b,b < w.heap.size → b ≠ g → some b ≠ vt.ownBlock → w'.heap[b]? = w.heap[b]?) ∧ w.heap.size ≤ w'.heap.size ∧ (vt'.ownBlock = vt.ownBlock ∨ ∃ b,vt'.ownBlock = some b ∧ w.heap.size ≤ b) ∧ ∀ B W0,B ≤ g → Below B W0 w → Below B W0 w'
set_option maxHeartbeats 1000000 in
set_option maxRecDepth 100000 in
theorem choTell (base : Nat) (S T : Nat → Prop) (v : Value) (am : List Int) (x : Int) (ts : List Tie) (w : World) (g : Nat) (ve vr vt vl : Value) (hG : w.heap[g]? = some (.cells #[ve,vr,vt,vl] 97 (0,0))) (hgb : g < base) (hO : Own base 115 2 (dTie S) w vt ts) (hS : ∀ b,S b → base ≤ b ∧ b < w.heap.size ∧ some b ≠ vt.ownBlock)
  (h : RInts T w v am) (hx : (Lit.int .i64 x).wf = true) (hb : base ≤ w.heap.size) (hl : ts.length ≤ 1000000) (hla : am.length ≤ 1000000) :
  Calls Tryz.prog 183 #[.pointer (some ⟨g,0,none⟩),v,.int .i64 x] w fun e w' => e = .returned (.int .i64 x) ∧ TellR base g S ve vr vt vl (ts ++ tieL (sortI am) x) w w' := by
 have hsl := qb7 am
 have hC := cloneInts T v am w h (by omega)
 obtain ⟨a,cap,rfl,-,-⟩ := RSl.shape h
 obtain ⟨at_,mt,ct,rfl⟩ := Own.slice hO
 by_cases h2 : 1 < am.length
 ·have hgt : ((am.length : Nat) : Int) > 1 := by omega
  have hti : tieL (sortI am) x = [⟨sortI am,x⟩] := if_pos (by rw [hsl];exact h2)
  rw [hti]
  have hSo := fun w1 v1 (k : Own w.heap.size 3 1 (dInt .i64) w1 v1 am) (k2 : Below w.heap.size w w1) => slSort w.heap.size v1 am w1 k k2.size hla
  have hgw := qa0 hG
  have hstep : ∀ w1 w2 v2,Below w.heap.size w w1 → InPlace w.heap.size v2 (sortI am) w1 w2 → w2.heap[g]? = some (.cells #[ve,vr,.slice at_ mt ct,vl] 97 (0,0)) ∧ Own base 115 2 (dTie fun b => S b ∨ (w.heap.size ≤ b ∧ b < w2.heap.size)) w2 (.slice at_ mt ct) ts ∧ dTie (fun b => S b ∨ (w.heap.size ≤ b ∧ b < w2.heap.size)) w2 [v2,.int .i64 x] ⟨sortI am,x⟩ ∧ Below w.heap.size w w2 := fun w1 w2 v2 hb1 ⟨hi1,hi2⟩ => by
   have hbw2 := hi2 _ _ (Nat.le_refl _) hb1
   refine ⟨(hbw2.block g hgw).trans hG,Own.dmono (fun _ _ hd => dTie.mono (fun b hb => .inl hb) hd) (Own.below (dTie.stable S) hO hbw2),?_,hbw2⟩
   have hr : RSl (Cut (From w.heap.size) w2.heap.size) 1 (dInt .i64) w2 v2 (sortI am) := RSl.cut (by omega) (fun _ _ h => h) (Own.rsl hi1 (by omega))
   exact ⟨v2,rfl,hx,RSl.mono (fun _ _ _ h => h) (fun b hb => .inr hb) hr⟩
  have hown : ∀ k,(Value.slice at_ mt ct).ownBlock = some k → base ≤ k ∧ k < w.heap.size := Own.lt hO
  have HC := Lib.hid hC;have HSo := Lib.hid hSo;have HStep := Lib.hid hstep;have HS := Lib.hid hS;have Hown := Lib.hid hown;have Hl := Lib.hid hl
  clear hC hSo hstep hS hown hl hsl hti hla h hO hx h2 hG
  go_enter Tryz.func183,Tryz.ntmps183
  go_wp2_with (first
   | (go_at_call 120;refine HC.out.mono ?_;rintro e w1 ⟨v1,rfl,ho1,hb1⟩;obtain ⟨a1,m1,c1,rfl⟩ := Own.slice ho1;have Ho1 := Lib.hid ho1;clear ho1)
   | (go_at_call 149;refine (HSo.out _ _ Ho1.out hb1).mono ?_;rintro e w2 ⟨rfl,hi2⟩;obtain ⟨k1,k2,k3,k4⟩ := HStep.out _ _ _ hb1 hi2;obtain ⟨-,gc,gf⟩ := qa6 (Below.refl _ w2) (qa0 k1) k1;have gc2 := gc 2;have gf2 := gf 2;have hgl2 : g < w2.heap.size := qa0 k1;have hz2 := k4.size;have K1 := Lib.hid k1;have K2 := Lib.hid k2;have K3 := Lib.hid k3;have K4 := Lib.hid k4;clear gc gf k1 k2 k3 k4 hi2)
   | (at_builtin;go_must (refine wpList_appF w2 Tryz.infoTie rfl rfl Tryz.underlying30 ⟨rfl,by omega,by omega,by omega⟩ (dTie.one _) (dTie.stable _) base K2.out (fun b hb e => by rcases hb with hb | hb;exact (HS.out b hb).2.2 e;have := (Hown.out b e.symm).2;omega) rfl (cs := [.slice a1 m1 c1,.int .i64 x]) rfl K3.out rfl Hl.out (by omega) ?_);intro a3 n3 c3 w3 ho3 hb3 hg3 hl3;have g3 := (hg3.block g hgl2 (fun e => by have := (Hown.out g e.symm).1;omega)).trans K1.out;obtain ⟨-,-,gf3⟩ := qa6 (Below.refl _ w3) (qa0 g3) g3;have gf32 := gf3 2;have gc32 := (qa6 (Below.refl _ w3) (qa0 g3) g3).2.1 2;have hgl3 : g < w3.heap.size := qa0 g3;have G3 := Lib.hid g3;have Ho3 := Lib.hid ho3;have Hb3 := Lib.hid hb3;have Hg3 := Lib.hid hg3;have Hl3 := Lib.hid hl3;clear g3 gf3 ho3 hb3 hg3 hl3))
  go_ret
  have hz3 := Hg3.out.size
  have hnot : ¬ ((fun b => S b ∨ (w.heap.size ≤ b ∧ b < w2.heap.size)) g) := fun hb => by
   rcases hb with hb | hb
   ·have := (HS.out g hb).1;omega
   ·omega
  refine ⟨rfl,.slice a3 n3 c3,?_,?_,?_,?_,?_,?_⟩
  ·have := qa2 (o := 2) G3.out (.slice a3 n3 c3)
   simpa using this
  ·refine Own.dmono (fun _ _ hd => dTie.mono (fun b hb => ?_) hd) (Own.setCell (dTie.stable _) Ho3.out (p := ⟨g, 2, none⟩) hgb hnot _)
   rcases hb with hb | hb
   ·exact .inl hb
   ·refine .inr ⟨hb.1, by rw [qai]; omega, fun e => ?_⟩
    rcases Hl3.out with k | ⟨c,k,hk⟩
    ·rw [k] at e
     have := (Hown.out b e.symm).2;omega
    ·rw [k] at e;cases e;omega
  ·intro b h1 h2 h3
   exact (Below.heap_setCell _ _ _ _ h2).trans ((Hg3.out.block b (by omega) h3).trans (K4.out.block b h1))
  ·rw [qai];omega
  ·rcases Hl3.out with k | ⟨c, k, hk⟩
   ·exact .inl k
   ·exact .inr ⟨c,k,by omega⟩
  ·intro B W0 hB hW
   exact (Hb3.out B W0 (by omega) (hW.trans (K4.out.mono (by have := hW.size;omega)))).setCell (p := ⟨g,2,none⟩) hB _
 ·have hgt : ¬ ((am.length : Nat) : Int) > 1 := by omega
  have hti : tieL (sortI am) x = [] := if_neg (by rw [hsl];exact h2)
  rw [hti,List.append_nil]
  have hT : TellR base g S ve vr (.slice at_ mt ct) vl ts w w := ⟨_,hG,Own.dmono (fun _ _ hd => dTie.mono (fun b hb => .inl hb) hd) hO,fun _ _ _ _ => rfl,Nat.le_refl _,.inl rfl,fun _ _ _ h => h⟩
  have HT := Lib.hid hT
  clear hT hti hsl hC hG hO hS h h2 hl hla
  go_enter Tryz.func183,Tryz.ntmps183
  go_wp2
  go_ret
  exact ⟨rfl,HT.out⟩
end

section
open Go Go.RowKit Go.Shelf

theorem TellR.back {base g : Nat} {S : Nat → Prop} {ve vr vt vl : Value} {ts : List Tie} {w w1 w2 : World} (h : TellR base g S ve vr vt vl ts w1 w2) (hb : Below w.heap.size w w1) (hg : g < w.heap.size) : TellR base g S ve vr vt vl ts w w2 := by
 obtain ⟨vt',k1,k2,k3,k4,k5,k6⟩ := h
 have hz := hb.size
 refine ⟨vt',k1,Own.dmono (fun _ _ hd => dTie.mono (fun b hb' => ?_) hd) k2,fun b h1 h2 h3 => (k3 b (by omega) h2 h3).trans (hb.block b h1),by omega,?_,fun B W0 hB hW => k6 B W0 hB (hW.trans (hb.mono (by omega)))⟩
 ·rcases hb' with h | h
  ·exact .inl h
  ·exact .inr ⟨by omega,h.2⟩
 ·rcases k5 with e | ⟨c, e, hc⟩
  ·exact .inl e
  ·exact .inr ⟨c,e,by omega⟩
set_option maxHeartbeats 1000000 in
theorem choFirstT (base : Nat) (S T U : Nat → Prop) (v : Value) (lot am : List Int) (ts : List Tie) (w : World) (g : Nat) (ve vr vt vl : Value) (hG : w.heap[g]? = some (.cells #[ve,vr,vt,vl] 97 (0,0))) (hgb : g < base) (hO : Own base 115 2 (dTie S) w vt ts) (hS : ∀ b,S b → base ≤ b ∧ b < w.heap.size ∧ some b ≠ vt.ownBlock)
  (hL : RInts U w vl lot) (h : RInts T w v am) (hne : am ≠ []) (hin : ∀ x ∈ am,x ∈ lot) (hx : (Lit.int .i64 (firstL lot am)).wf = true) (hb : base ≤ w.heap.size) (hl : ts.length ≤ 1000000) (hla : am.length ≤ 1000000) (hll : lot.length ≤ 1000000) :
  Calls Tryz.prog 126 #[.pointer (some ⟨g,0,none⟩),v] w fun e w' => e = .returned (.int .i64 (firstL lot am)) ∧ TellR base g S ve vr vt vl (ts ++ tieL (sortI am) (firstL lot am)) w w' := by
 have hF := choFirst U T v lot am w g ve vr vt vl hG hL h hne hin hll
 have hgw := qa0 hG
 have hT := fun w1 (hb1 : Below w.heap.size w w1) => (choTell base S T v am (firstL lot am) ts w1 g ve vr vt vl ((hb1.block g hgw).trans hG) hgb (Own.below (dTie.stable S) hO hb1) (fun b k => ⟨(hS b k).1,Nat.lt_of_lt_of_le (hS b k).2.1 hb1.size,(hS b k).2.2⟩) (h.same (.of_below hb1)) hx (Nat.le_trans hb hb1.size) hl hla).mono fun e w2 ⟨k1,k2⟩ => (And.intro k1 (k2.back hb1 hgw))
 obtain ⟨F,hFe⟩ : ∃ F,firstL lot am = F := ⟨_,rfl⟩
 rw [hFe] at hF hT ⊢
 obtain ⟨a,cap,rfl,-,-⟩ := RSl.shape h
 have HF := Lib.hid hF;have HT := Lib.hid hT
 clear hF hT hFe hG hO hS hL h hne hin hx hl hla hll
 go_enter Tryz.func126,Tryz.ntmps126
 go_wp2_with (first
  | (go_at_call 184;refine HF.out.mono ?_;rintro e w1 ⟨rfl,hb1⟩)
  | (go_at_call 183;refine (HT.out _ hb1).mono ?_;rintro e w2 ⟨rfl,hr2⟩;have Hr2 := Lib.hid hr2;clear hr2))
 go_ret
 exact ⟨rfl,Hr2.out⟩
end

section
open Go Go.RowKit Go.Shelf Go.Sort

theorem Own.atBlock {base : Nat} {e : TypeId} {k : IntKind} {w w' : World} {v : Value} {xs : List Int} (h : Own base e 1 (dInt k) w v xs) (hs : ∀ b,v.ownBlock = some b → w'.heap[b]? = w.heap[b]?) : Own base e 1 (dInt k) w' v xs := by
 obtain ⟨cells,⟨hl,ho⟩,hd⟩ := h
 refine ⟨cells,⟨hl,?_⟩,hd⟩
 rcases ho with ho | ⟨g,cap,cur,rfl,h1,h2,h3⟩
 ·exact .inl ho
 ·exact .inr ⟨g,cap,cur,rfl,h1,(hs g rfl).trans h2,h3⟩
theorem slDelete2 (base : Nat) (v : Value) (xs : List Int) (w : World) (h : Own base 3 1 (dInt .i64) w v xs) (hb : base ≤ w.heap.size) (hl : xs.length ≤ 1000000) (hne : xs ≠ []) (p : Int → Bool) (f : Nat) (lb : Array Value) (eg : ∀ args w,(callFunc f args).run Tryz.prog w = .ok (.enter f args) w)
  (hp : ∀ (W : World) (x : Int),(∀ b,b < w.heap.size → some b ≠ v.ownBlock → W.heap[b]? = w.heap[b]?) → w.heap.size ≤ W.heap.size → Calls Tryz.prog f (#[.int .i64 x] ++ lb) W fun e w' => e = .returned (.bool (p x)) ∧ w' = W)
  (hz : ∀ w,(zeroValue 3).run Tryz.prog w = .ok (.int .i64 0) w) :
  Calls Tryz.prog 198 #[v,.func (.func f) #[] lb] w fun e w' => ∃ v',e = .returned v' ∧ InPlace base v' (xs.filter fun x => !p x) w w' ∧ w.grownBy w' v.ownBlock ∧ v'.ownBlock = v.ownBlock := by
 rcases h.cur with ⟨rfl,rfl⟩ | ⟨g,cap,cur,rfl,hbg,hg,h1,h2,h3,h4,h5⟩
 ·exact absurd rfl hne
 ·have hgiv : ∀ (W : World) (x : Int), (∀ b, b < w.heap.size → some b ≠ (Value.slice (some ⟨g, 0, none⟩) xs.length cap).ownBlock → W.heap[b]? = w.heap[b]?) → w.heap.size ≤ W.heap.size → FnGives Tryz.prog f lb #[.int .i64 x] (.bool (p x)) W := fun W x k1 k2 =>
   (hp W x k1 k2).mono fun e w' ⟨k3,k4⟩ => ⟨k3,0,k4⟩
  have hP : PredAt Tryz.prog f lb (Value.int .i64) p w := fun W x hW => hgiv W x (fun b hb _ => hW.block b hb) hW.size
  have hPO : PredOver Tryz.prog f lb (Value.int .i64) p g 0 xs.toArray.size w := fun n os dk x _ => by
   have hgr := grownBy_sortedI (w := w) (g := g) (n := n) (os := os) dk
   exact hgiv _ x (fun b hb hne => hgr.block b hb (by simpa [Value.ownBlock] using hne)) hgr.size
  have := Tryz.slices_DeleteFunc (Value.int .i64) (fun _ => rfl) p f lb eg 0 hz g 0 cap xs.toArray w hP hPO (holds_of_blockI hg h4) (by simp;omega) (by simpa using h1)
  simp only [List.size_toArray] at this
  refine this.mono ?_
  rintro e w' ⟨rfl,q,rfl⟩
  have hfl : (xs.filter fun x => !p x).length ≤ xs.length := List.length_filter_le _ _
  have hlen : ((xs.filter fun x => !p x) ++ List.replicate (xs.length - (xs.filter fun x => !p x).length) (0 : Int)).length = xs.length := by simp;omega
  have hgr := grownBy_sortedI (w := w) (g := g) (n := q) (os := #[]) ((xs.filter fun x => !p x) ++ List.replicate (xs.length - (xs.filter fun x => !p x).length) (0 : Int)).toArray
  have hrow := ownsRow_sortedI (ts := (xs.filter fun x => !p x) ++ List.replicate (xs.length - (xs.filter fun x => !p x).length) (0 : Int)) (ss := xs) (n := q) (os := #[]) hlen hbg hg h1 h2 h3
  rw [grow_empty] at hgr hrow
  have hrow2 := ownsRow_cut hrow hfl
  rw [← List.map_take,List.take_left] at hrow2
  have hin : InPlace base (.slice (some ⟨g,0,none⟩) (xs.filter fun x => !p x).length cap) (xs.filter fun x => !p x) w _ := ⟨Own.ofInts hrow2 (fun x hx => h5 x ((List.mem_filter.1 hx).1)),fun B W0 hB hW => hW.grown hgr (by omega) (fun k e => by cases e;omega)⟩
  exact ⟨_,rfl,hin,hgr,rfl⟩
end

section
open Go Go.RowKit Go.Shelf

def Tw (base : Nat) (w : World) (ve vt vl : Value) : Nat → Prop := fun b => base ≤ b ∧ b < w.heap.size ∧ some b ≠ ve.ownBlock ∧ some b ≠ vt.ownBlock ∧ some b ≠ vl.ownBlock
def Moved (w : World) (v v' : Value) : Prop := v'.ownBlock = v.ownBlock ∨ ∃ b,v'.ownBlock = some b ∧ w.heap.size ≤ b
theorem Moved.ne {w : World} {v v' : Value} (h : Moved w v v') {b : Nat} (hb : b < w.heap.size) (hn : some b ≠ v.ownBlock) : some b ≠ v'.ownBlock := by
 rcases h with e | ⟨c,e,hc⟩
 ·rw [e];exact hn
 ·rw [e];intro h;cases h;omega
theorem Tw.up {base : Nat} {w w' : World} {ve vt vl ve' vt' vl' : Value} (hs : w.heap.size ≤ w'.heap.size) (he : Moved w ve ve') (ht : Moved w vt vt') (hl : Moved w vl vl') : ∀ b,Tw base w ve vt vl b → Tw base w' ve' vt' vl' b := fun b ⟨h0,h1,h2,h3,h4⟩ =>
 ⟨h0,by omega,he.ne h1 h2,ht.ne h1 h3,hl.ne h1 h4⟩
structure CountI (base g : Nat) (w wr : World) (va vr vo ve vt vl : Value) (s : St) : Prop where
 co : wr.heap[g]? = some (.cells #[va,vr,vt,vo] 97 (0,0))
 el : Own base 3 1 (dInt .i64) wr ve s.elected
 ti : Own base 115 2 (dTie (Tw base wr ve vt vl)) wr vt s.ties
 le : Own base 3 1 (dInt .i64) wr vl s.left
 ap : ApartV vl ve
 keep : ∀ b,b < base → b ≠ g → wr.heap[b]? = w.heap[b]?
 below : Below g w wr
 big : base ≤ wr.heap.size
 lt : g < base
section
variable {base g : Nat} {w wr w1 : World} {va vr vo ve vt vl : Value} {s : St}
theorem CountI.later (h : CountI base g w wr va vr vo ve vt vl s) (hb : Below wr.heap.size wr w1) : CountI base g w w1 va vr vo ve vt vl s := by
 have hz := hb.size
 have hg := h.lt
 have hB := h.big
 exact ⟨(hb.block g (by omega)).trans h.co,h.el.aside (qan hb) (by cases ve.ownBlock <;> simp),Own.tmono famTie (Tw.up hz (.inl rfl) (.inl rfl) (.inl rfl)) (Own.below (dTie.stable _) h.ti hb),h.le.aside (qan hb) (by cases vl.ownBlock <;> simp),h.ap,
  fun b h1 h2 => (hb.block b (by omega)).trans (h.keep b h1 h2),h.below.trans (hb.mono (by omega)),by omega,hg⟩
theorem CountI.tell (h : CountI base g w wr va vr vo ve vt vl s) {ts : List Tie} (hr : TellR base g (Tw base wr ve vt vl) va vr vt vo ts wr w1) : ∃ vt',CountI base g w w1 va vr vo ve vt' vl ⟨s.left,s.elected,ts⟩ := by
 obtain ⟨vt',k1,k2,k3,k4,k5,k6⟩ := hr
 have hg := h.lt
 have hB := h.big
 have hel := Own.lt h.el
 have hle := Own.lt h.le
 have hne := qav h.el h.ti tie_ne_int.symm
 have hnl := qav h.le h.ti tie_ne_int.symm
 refine ⟨vt',k1,Own.atBlock h.el fun b hb => k3 b (hel b hb).2 (by have := (hel b hb).1;omega) (fun e => hne b hb e.symm),Own.tmono famTie (fun b hb => ?_) k2,Own.atBlock h.le fun b hb => k3 b (hle b hb).2 (by have := (hle b hb).1;omega) (fun e => hnl b hb e.symm),h.ap,fun b h1 h2 => (k3 b (by omega) h2 fun e => by have := (Own.lt h.ti b e.symm).1;omega).trans (h.keep b h1 h2),k6 _ _ (Nat.le_refl _) h.below,by omega,hg⟩
 rcases hb with hb | ⟨h1,h2,h3⟩
 ·exact Tw.up k4 (.inl rfl) k5 (.inl rfl) b hb
 ·exact ⟨by omega,h2,fun e => by have := (hel b e.symm).2;omega,h3,fun e => by have := (hle b e.symm).2;omega⟩
theorem CountI.elect (h : CountI base g w wr va vr vo ve vt vl s) {ve2 : Value} {el : List Int} (h2 : Own base 3 1 (dInt .i64) w1 ve2 el) (hB : ∀ B W0,B ≤ base → Below B W0 wr → Below B W0 w1) (hg : wr.grownBy w1 ve.ownBlock) (hl : Moved wr ve ve2) : CountI base g w w1 va vr vo ve2 vt vl ⟨s.left,el,s.ties⟩ := by
 have hgb := h.lt
 have hbig := h.big
 have hs := hg.size
 have hlo : ∀ b,b < base → some b ≠ ve.ownBlock := fun b hb e => by have := (Own.lt h.el b e.symm).1;omega
 refine ⟨(hg.block g (by omega) (hlo g hgb)).trans h.co,h2,Own.tmono famTie (Tw.up hs hl (.inl rfl) (.inl rfl)) (Own.kept (S := Tw base wr ve vt vl) (dTie.stable _) h.ti hg (qav h.ti h.el tie_ne_int).or (.of_grown hg fun b hb => hb.2.2.1)),h.le.aside hg h.ap.or,?_,fun b h1 h2 => (hg.block b (by omega) (hlo b h1)).trans (h.keep b h1 h2),hB _ _ (by omega) h.below,by omega,hgb⟩
 intro b hb e
 rcases hl with hl | ⟨c,hc,hz⟩
 ·exact h.ap b hb (hl ▸ e)
 ·rw [hc] at e; cases e
  have := (Own.lt h.le b hb).2;omega
theorem CountI.drop (h : CountI base g w wr va vr vo ve vt vl s) {vl2 : Value} {le : List Int} (h2 : InPlace base vl2 le wr w1) (hg : wr.grownBy w1 vl.ownBlock) (hl : vl2.ownBlock = vl.ownBlock) : CountI base g w w1 va vr vo ve vt vl2 ⟨le,s.elected,s.ties⟩ := by
 have hgb := h.lt
 have hbig := h.big
 have hs := hg.size
 have hlo : ∀ b,b < base → some b ≠ vl.ownBlock := fun b hb e => by have := (Own.lt h.le b e.symm).1;omega
 have hap : ApartV ve vl := fun b hb e => h.ap b e hb
 refine ⟨(hg.block g (by omega) (hlo g hgb)).trans h.co,h.el.aside hg hap.or,Own.tmono famTie (Tw.up hs (.inl rfl) (.inl rfl) (.inl hl)) (Own.kept (S := Tw base wr ve vt vl) (dTie.stable _) h.ti hg (qav h.ti h.le tie_ne_int).or (.of_grown hg fun b hb => hb.2.2.2.2)),h2.1,fun b hb e => h.ap b (hl ▸ hb) e,fun b h1 h2 => (hg.block b (by omega) (hlo b h1)).trans (h.keep b h1 h2),h2.2 _ _ (by omega) h.below,by omega,hgb⟩
end
end

section
open Go Go.RowKit Go.Shelf

structure OneI (S : Nat → Prop) (w : World) (g : Nat) (u vr vo ve vt : Value) (had el : List Int) (ts : List Tie) (w2 : World) : Prop where
 co : w2.heap[g]? = some (.cells #[ve,vr,vt,vo] 97 (0,0))
 bx : w2.heap[w.heap.size]? = some (.cells #[.slice none 0 0,.slice none 0 0,.slice none 0 0] 32 (0,0))
 el : RInts (From (w.heap.size + 1)) w2 ve el
 ti : RTies (From (w.heap.size + 1)) w2 vt ts
 had : RInts S w2 u had
 below : Below g w w2
 big : w.heap.size + 1 ≤ w2.heap.size
section
variable {S : Nat → Prop} {w : World} {g : Nat} {u vr vo ve vt : Value} {had el : List Int} {ts : List Tie} {w2 w3 : World}
theorem OneI.later (h : OneI S w g u vr vo ve vt had el ts w2) (hb : Below w2.heap.size w2 w3) (hg : g < w.heap.size) : OneI S w g u vr vo ve vt had el ts w3 := by
 have hz := hb.size
 have hB := h.big
 exact ⟨(hb.block g (by omega)).trans h.co,(hb.block _ (by omega)).trans h.bx,h.el.same (.of_below hb),h.ti.same (.of_below hb),h.had.same (.of_below hb),h.below.trans (hb.mono (by omega)),by omega⟩
theorem OneI.start {va : Value} (hg : g < w.heap.size) (h : RInts S w u had) (hS : ∀ b,S b → b ≠ g) (hel : el.length ≤ 1000000) (hts : ts.length ≤ 1000000) {W0 w1 : World} {Z : Obj} (hZ : Z = Obj.cells #[.slice none 0 0,.slice none 0 0,.slice none 0 0] 32 (0,0)) (h0 : W0 = w.alloc Z)
  (k1 : w1.heap[g]? = some (.cells #[va,vr,vt,vo] 97 (0,0))) (k2 : Own W0.heap.size 3 1 (dInt .i64) w1 ve el) (k3 : Own W0.heap.size 115 2 (dTie (Tz W0.heap.size w1 ve vt)) w1 vt ts) (k4 : ∀ b,b < W0.heap.size → b ≠ g → w1.heap[b]? = W0.heap[b]?) (k5 : Below g W0 w1) :
  OneI S w g u vr vo ve vt had el ts (w1.setCell ⟨g,0,none⟩ ve) := by
 have hz0 : W0.heap.size = w.heap.size + 1 := by rw [h0];simp
 have hb0 : Below w.heap.size w W0 := by rw [h0];exact qa1 w _
 have hz1 := k5.size
 rw [hz0] at k2 k3 k4
 have hs : Same (From (w.heap.size + 1)) w1 (w1.setCell ⟨g,0,none⟩ ve) := (Same.refl _ _).setCell (p := ⟨g,0,none⟩) (fun hb => by simp only [From] at hb;omega) _
 have hsS : Same S w1 (w1.setCell ⟨g,0,none⟩ ve) := (Same.refl _ _).setCell (p := ⟨g,0,none⟩) (fun hb => hS _ hb rfl) _
 refine ⟨by have := qa2 (o := 0) k1 ve;simpa using this,?_,RSl.same (dInt.stable _ _) hs (Own.rsl k2 (by omega)),?_,?_,?_,by rw [qai];omega⟩
 ·refine (Below.heap_setCell _ _ _ _ (by simp; omega)).trans ((k4 _ (by omega) (by omega)).trans ?_)
  rw [h0,hZ];exact qa8 w _
 ·exact RTies.same hs (RSl.mono (fun _ _ _ h => h) (fun _ h => h) (Own.rsl (Own.dmono (fun _ _ hd => dTie.mono (fun _ hb => hb.1) hd) k3) (by omega)))
 ·exact RSl.same (dInt.stable _ _) hsS (h.same fun b hb hSb => (k4 b (by omega) (hS b hSb)).trans (hb0.block b hb))
 ·exact ((hb0.mono (by omega)).trans k5).setCell (p := ⟨g,0,none⟩) (Nat.le_refl _) _
end
end

section
open Go Go.RowKit Go.Shelf
attribute [local go_sem] Oper.semAt_some

theorem OwnX.putI {base : Nat} {e : TypeId} {w : World} {v : Value} {xs : List Int} (h : OwnX base e 1 (fun _ => dInt .i64) w v xs) {l : Nat} (hl : l < base) (o : Obj) : OwnX base e 1 (fun _ => dInt .i64) (w.putObj l o) v xs :=
 Own.kept ((famInt .i64).stable (fun b => base ≤ b)) h (grownBy_putObj' w l o) (by
  cases hv : v.ownBlock with
  | none => exact .inl rfl
  | some k => exact .inr (fun e => by cases e;have := (Own.lt h _ hv).1;omega)) (fun b _ hs => World.putObj_heap_other (fun e => by omega))
theorem OwnX.cellsI {base : Nat} {e : TypeId} {w : World} {v : Value} {xs : List Int} (h : OwnX base e 1 (fun _ => dInt .i64) w v xs) (j : Nat) (o : Obj) (hj : v.ownBlock = some j) (ho : w.heap[j]? = some o) : o.isCells = true := by
 obtain ⟨cells,hw,_⟩ := h
 rcases hw.2 with ⟨rfl,_⟩ | ⟨g,cap,cur,rfl,_,hg,_⟩
 ·cases hj
 ·cases hj;rw [hg] at ho;cases ho;rfl
set_option maxHeartbeats 1000000 in
theorem slValues1 (n : Nat) (hn : 1 ≤ n) (S : Nat → Prop) (n₀ bB : Nat) (v : Value) (xs : List Int) (w : World) (h : RInts S w v xs) (hS : ∀ b,S b → b < n₀) (hl : xs.length ≤ 1000000)
  (hB : w.heap[bB]? = some (.cells #[v] 25 (0,0))) : SeqNew n Tryz.prog 211 #[.pointer (some ⟨bB,0,none⟩)] (fun x : Int => #[.int .i64 x]) (fun x _ _ => (Lit.int .i64 x).wf = true) n₀ xs.length (fun _ => False) (· = xs) (fun _ => True) w := by
 intro l J Jx W hW hY h0
 have hRW := h.same (.of_below hW)
 have hBW := (hW.block bB (qa0 hB)).trans hB
 obtain ⟨a,cap,rfl,h1,h2⟩ := RSl.shape h
 obtain ⟨-,hc,-⟩ := qa6 (Below.refl _ W) (qa0 hBW) hBW
 have hc0 : W.cell? ⟨bB,0,none⟩ = some (.slice a xs.length cap) := by simpa using hc 0
 obtain ⟨m,hm⟩ : ∃ m,xs.length = m := ⟨_,rfl⟩
 rw [hm] at hRW hc0 hY hl
 have HY := Lib.hid hY;have HS := Lib.hid hS;have Hm := Lib.hid hm
 clear hY hS h hB hBW hc hm
 refine callsIn_of_wp Tryz.func211 rfl trivial ?_ rfl
 simp only [Tryz.ntmps211,List.size_toArray,List.length_cons,List.length_nil,Nat.reduceAdd,Nat.reduceSub,Array.replicate_succ,Array.replicate_zero,List.push_toArray,List.append_toArray,List.nil_append,List.cons_append]
 gi_wp2
 gi_loopw [7] (fun i wr => ∃ (p : Nat),i = .int .i64 p ∧ p ≤ m ∧ Hid (J (xs.take p) wr) ∧ Hid (RInts S wr (.slice a m cap) xs)) (fun i _ => m - (intOf i).toNat)
 case atStart => exact ⟨0,rfl,Nat.zero_le _,Lib.hid h0,Lib.hid hRW⟩
 case round =>
  obtain ⟨p,rfl,hp,hJ,hR⟩ := hrel
  by_cases hlt : p < m
  ·obtain ⟨b, off, c, rfl, hSb, hbl, hcl, hd⟩ := RSl.at1 hR.out p (by rw [Hm.out]; exact hlt)
   obtain ⟨rfl,hwf⟩ := hd.open
   obtain ⟨x,hx⟩ : ∃ x,xs[p]'(by rw [Hm.out];exact hlt) = x := ⟨_,rfl⟩
   rw [hx] at hcl hwf
   obtain ⟨fn,tmps,assign,body,hy,hRd⟩ := HY.out (xs.take p) x wr wr hJ.out (by rw [List.length_take];omega) (Below.refl _ _) hwf
   have hst : xs.take p ++ [x] = xs.take (p + 1) := by rw [List.take_add_one,List.getElem?_eq_getElem (by rw [Hm.out];exact hlt),hx];rfl
   have Hst := Lib.hid hst
   clear hst hx hwf
   gi_wp2
   refine hRd.mono ?_
   rintro e W' (⟨rfl,hJ',hk,-⟩ | ⟨rfl,hJx'⟩)
   ·gi_wp2
    refine ⟨⟨p + 1,by go_num,by omega,Lib.hid (by rw [← Hst.out];exact hJ'),Lib.hid (hR.out.same (fun b hb hs => hk.block b (HS.out b hs)))⟩,?_⟩
    simp [intOf];omega
   ·gi_wp2
    refine bodyPost_ret (results_none rfl _ _ _) rfl ?_
    exact ⟨⟨_,rfl⟩,.inr ⟨_,trivial,hJx'⟩⟩
  ·have hJ2 : J xs wr := by have := hJ.out; rwa [List.take_of_length_le (by rw [Hm.out]; omega)] at this
   have HJ2 := Lib.hid hJ2
   clear hJ2
   gi_wp2
   go_end0
   exact ⟨⟨_,rfl⟩,.inl ⟨xs,rfl,HJ2.out⟩⟩
theorem slValues (a : Option Addr) (n c : Nat) (w : World) : Calls Tryz.prog 181 #[.slice a n c] w fun e w' => e = .returned (.func (.func 211) #[] #[.pointer (some ⟨w.heap.size,0,none⟩)]) ∧ w' = w.alloc (.cells #[.slice a n c] 25) := by
 go_enter Tryz.func181,Tryz.ntmps181
 go_wp2
 go_ret
 exact ⟨rfl,rfl⟩
set_option maxHeartbeats 4000000 in
set_option maxRecDepth 100000 in
theorem slAppendSeq (S : Nat → Prop) (bB : Nat) (v : Value) (xs : List Int) (w : World) (h : RInts S w v xs) (hl : xs.length ≤ 1000000) (hB : w.heap[bB]? = some (.cells #[v] 25 (0,0))) :
  Calls Tryz.prog 236 #[.slice none 0 0,.func (.func 211) #[] #[.pointer (some ⟨bB,0,none⟩)]] w (GivesI xs w) := by
 refine (callsIn_wide (n := 8)).1 ?_
 have hC : RInts (Cut S w.heap.size) w v xs := h.cut
 have hBw := qa0 hB
 refine callsIn_of_wp_marks Tryz.func236 rfl trivial ?_ rfl
 simp only [Tryz.ntmps236,List.size_toArray,List.length_cons,List.length_nil,Nat.reduceAdd,Nat.reduceSub,Array.replicate_succ,Array.replicate_zero,List.push_toArray,List.append_toArray,List.nil_append,List.cons_append]
 have h18 : 1 ≤ 8 := by omega
 gi_wp2
 obtain ⟨w1,hw1⟩ : ∃ w1,w1 = w.alloc (.cells #[.slice none 0 0] 25) := ⟨_,rfl⟩
 have hsz : w1.heap.size = w.heap.size + 1 := by rw [hw1];simp
 have hb1 : Below w.heap.size w w1 := by rw [hw1];exact qa1 w _
 have g0 : w1.heap[w.heap.size]? = some (.cells #[.slice none 0 0] 25 (0,0)) := by rw [hw1];exact qa8 _ _
 have g2 := (hb1.block bB hBw).trans hB
 rw [← hw1]
 refine wpIn_rangeFunc_new (n := 8) (gf := 211) (lb := #[.pointer (some ⟨bB,0,none⟩)]) rfl (enters_of Tryz.func211 (by kernel_rfl) rfl)
  (slValues1 7 (by omega) (Cut S w.heap.size) w.heap.size bB _ xs w1 (hC.same (.of_below hb1)) (fun b hb => hb.2) hl g2) (by omega) (fun b hb => hb.elim) (Below.refl _ _) (fun _ => rfl)
  (fun pre W => ∃ ov,W.heap[w.heap.size]? = some (.cells #[ov] 25 (0,0)) ∧ OwnX (w.heap.size + 3) 3 1 (fun _ => dInt .i64) W ov pre ∧ Below w.heap.size w W ∧ w.heap.size + 3 ≤ W.heap.size)
  (fun _ _ => False)
  ?ip ?ixp ?h0 ?a1 ?assign ?body ?done ?stop
 case assign =>
  intro l x W K hK
  gi_wp2
  exact hK
 case ip =>
  rintro s W l o h3 h4 ⟨ov,c0,ho,hb,hz⟩
  exact ⟨ov,(World.putObj_heap_other (by omega)).trans c0,ho.putI (by omega) o,hb.grown (grownBy_putObj' W l o) hb.size (fun k e => by cases e;omega),by simpa using hz⟩
 case ixp => intros;assumption
 case h0 =>
  intro W hb hz
  exact ⟨_,(hb.block _ (by omega)).trans g0,OwnX.nil _ _ _ _ _,hb1.trans (hb.mono (by omega)),by omega⟩
 case body =>
  rintro l pre x W0 W1 o ⟨ov,c0,ho,hb,hz⟩ hN hlt hbW hwf
  obtain ⟨W2,hW2⟩ : ∃ W2,W2 = W1.putObj (w1.heap.size + 1) o := ⟨_,rfl⟩
  rw [← hW2]
  have hs1 := hbW.size
  have hs2 : W2.heap.size = W1.heap.size := by rw [hW2];simp
  have hoth : ∀ b,b ≠ w1.heap.size + 1 → W2.heap[b]? = W1.heap[b]? := fun b hb => by rw [hW2];exact World.putObj_heap_other hb
  have d0 : W2.heap[w.heap.size]? = some (.cells #[ov] 25 (0,0)) := (hoth _ (by omega)).trans ((hbW.block _ (by omega)).trans c0)
  have k0 := qa6 (Below.refl _ W2) (qa0 d0) d0
  have kc0 : W2.cell? ⟨w.heap.size,0,none⟩ = some ov := k0.2.1 0
  have kf0 := k0.2.2 0
  have hb2 : Below w.heap.size w W2 := by rw [hW2];exact (hb.trans (hbW.mono (by omega))).grown (grownBy_putObj' _ _ _) (by have := hb.size;omega) (fun k e => by cases e;omega)
  have ho2 : OwnX (w.heap.size + 3) 3 1 (fun _ => dInt .i64) W2 ov pre := by rw [hW2];exact (ho.below (famInt .i64) hbW).putI (by omega) o
  obtain ⟨aov,cov,hov⟩ := ho2.shape
  subst hov
  have hO3 := ho2.below (famInt .i64) (qa1 W2 (.cells #[.int .i64 x] 3))
  have hge : w.heap.size + 3 ≤ W2.heap.size := by omega
  have HD : Hid (dInt .i64 (W2.alloc (.cells #[.int .i64 x] 3)) [.int .i64 x] x) := Lib.hid ⟨rfl,hwf⟩
  have hpl : pre.length ≤ 1000000 := by omega
  obtain ⟨pl,hpl2⟩ : ∃ n,pre.length = n := ⟨_,rfl⟩
  have Hd0 := Lib.hid d0;have Hpl := Lib.hid hpl2
  rw [hpl2] at hpl Hd0 kc0 hO3
  have HO3 := Lib.hid hO3
  clear hs1 hs2 hoth d0 k0 ho ho2 c0 hW2 hwf hpl2 hN hO3
  gi_wp2_with (gi_at_builtin;go_must (refine wpListIn_appX _ Tryz.infoInt rfl rfl Tryz.underlying25 ⟨rfl,by omega,by omega⟩ (famInt .i64) (w.heap.size + 3) HO3.out rfl (g := W2.heap.size) (cs := [.int .i64 x]) (y := x) (qa8 _ _) rfl HD.out rfl (by have := Hpl.out;omega) (by simp;omega) ?_);go_must (intro a' n' c' w3 hgr hO;have hne : ∀ b,b < w.heap.size + 3 → some b ≠ (Value.slice aov pl cov).ownBlock := fun b hb e => (by have := (Own.lt HO3.out b e.symm).1;omega);have e0 := (hgr.block w.heap.size (by simp;omega) (hne _ (by omega))).trans (qay _ Hd0.out);have q0 := qa6 (Below.refl _ w3) (qa0 e0) e0;have q1 := q0.2.1 0;have q2 := q0.2.2 0))
  have hb3 := hb2.alloc hb2.size (.cells #[.int .i64 x] 3)
  have hsz3 := hgr.size
  rw [World.size_alloc] at hsz3
  refine ⟨?_,?_,fun b hb => hb.elim,_,qa2 e0 _,?_,?_,?_⟩
  ·exact (KeepsOthers.alloc _ _).trans ((KeepsOthers.of_grownBy hgr (fun j o' hj ho' => OwnX.cellsI HO3.out j o' hj ho')).trans (KeepsOthers.setCell _ _ _))
  ·exact ((((Below.refl w.heap.size W2).alloc (by omega) _).grown hgr (by simp;omega) (fun k e => by have := (Own.lt HO3.out k e).1;omega)).setCell (p := ⟨w.heap.size,0,none⟩) (Nat.le_refl _) _)
  ·exact hO.setCell (famInt .i64) (p := ⟨w.heap.size,0,none⟩) (by simp) (.slice a' n' c')
  ·exact (hb3.grown hgr (by simp;omega) (fun k e => by have := (Own.lt HO3.out k e).1;omega)).setCell (p := ⟨w.heap.size,0,none⟩) (Nat.le_refl _) _
  ·rw [qai];omega
 case done =>
  rintro ys W rfl ⟨ov,c0,ho,hb,hz⟩ hK
  obtain ⟨aov,cov,hov⟩ := ho.shape
  subst hov
  have k0 := qa6 (Below.refl _ W) (qa0 c0) c0
  have kc0 : W.cell? ⟨w.heap.size,0,none⟩ = some (.slice aov ys.length cov) := k0.2.1 0
  have hR : GivesI ys w (.returned (.slice aov ys.length cov)) (W.putObj w1.heap.size (.deferred none)) :=
   ⟨_,rfl,Own.rebase (ho.putI (by omega) _) (by omega),hb.grown (grownBy_putObj' _ _ _) hb.size (fun k e => by cases e;omega)⟩
  have HR := Lib.hid hR
  clear hR k0 ho hb
  gi_wp2
  refine ⟨by simp,.inl ⟨_,_,rfl,run_takeDeferred hK,?_⟩⟩
  exact ⟨_,results_tmp rfl _ _ _,by exact HR.out⟩
 case stop => rintro ys W hS hF;exact hF.elim
theorem slCollect (S : Nat → Prop) (bB : Nat) (v : Value) (xs : List Int) (w : World) (h : RInts S w v xs) (hl : xs.length ≤ 1000000) (hB : w.heap[bB]? = some (.cells #[v] 25 (0,0))) :
  Calls Tryz.prog 210 #[.func (.func 211) #[] #[.pointer (some ⟨bB,0,none⟩)]] w (GivesI xs w) := by
 have hA := slAppendSeq S bB v xs w h hl hB
 have HA := Lib.hid hA
 clear hA h hB
 go_enter Tryz.func210,Tryz.ntmps210
 go_wp2_with (go_at_call 236;refine HA.out.mono ?_;rintro e w1 ⟨v1,rfl,ho,hb⟩;obtain ⟨a1,m1,c1,rfl⟩ := Own.slice ho)
 go_ret
 exact ⟨_,rfl,ho,hb⟩
theorem slSorted (S : Nat → Prop) (bB : Nat) (v : Value) (xs : List Int) (w : World) (h : RInts S w v xs) (hl : xs.length ≤ 1000000) (hB : w.heap[bB]? = some (.cells #[v] 25 (0,0))) :
  Calls Tryz.prog 180 #[.func (.func 211) #[] #[.pointer (some ⟨bB,0,none⟩)]] w (GivesI (sortI xs) w) := by
 have hA := slCollect S bB v xs w h hl hB
 have HA := Lib.hid hA;have Hl := Lib.hid hl
 clear hA h hB hl
 go_enter Tryz.func180,Tryz.ntmps180
 go_wp2_with (first
  | (go_at_call 210;refine HA.out.mono ?_;rintro e w1 ⟨v1,rfl,ho,hb⟩;have HS := Lib.hid (slSort w.heap.size v1 xs w1 ho hb.size Hl.out);obtain ⟨a1,m1,c1,rfl⟩ := Own.slice ho;clear ho)
  | (go_at_call 149;refine HS.out.mono ?_;rintro e w2 ⟨rfl,hi⟩))
 go_ret
 exact ⟨_,rfl,hi.1,hi.2 _ _ (Nat.le_refl _) hb⟩
set_option maxHeartbeats 1000000 in
theorem choLot (S : Nat → Prop) (v : Value) (lot : List Int) (cands : Int) (w : World) (h : RInts S w v lot) (hl : lot.length ≤ 1000000) :
  Calls Tryz.prog 119 #[v,.int .i64 cands] w fun e w' => e = .returned (.bool (lotB lot cands)) ∧ Below w.heap.size w w' := by
 obtain ⟨a,cap,rfl,h1,h2⟩ := RSl.shape h
 have hb0 := qa1 w (.cells #[.slice a lot.length cap] 25)
 have hS := slSorted S w.heap.size (.slice a lot.length cap) lot (w.alloc (.cells #[.slice a lot.length cap] 25)) (h.same (.of_below hb0)) hl (qa8 w _)
 have hsl : (sortI lot).length = lot.length := qb7 lot
 have hspec := lotB_sort lot cands
 obtain ⟨B,hB⟩ : ∃ B,lotB lot cands = B := ⟨_,rfl⟩
 rw [hB] at hspec ⊢
 obtain ⟨ss,hss⟩ : ∃ ss,sortI lot = ss := ⟨_,rfl⟩
 rw [hss] at hS hspec hsl
 obtain ⟨m,hm⟩ : ∃ m,lot.length = m := ⟨_,rfl⟩
 rw [hm] at hS hspec hl hsl hb0 ⊢
 have HS := Lib.hid hS;have Hspec := Lib.hid hspec;have Hsl := Lib.hid hsl
 clear hS hspec hsl h h1 h2 hB hss hm
 go_enter Tryz.func119,Tryz.ntmps119
 go_wp2_with (first
  | (go_at_call 181;refine (slValues _ _ _ _).mono ?_;rintro e w1 ⟨rfl,rfl⟩)
  | (go_at_call 180;refine HS.out.mono ?_;rintro e w2 ⟨v2,rfl,ho,hb⟩;obtain ⟨a2,m2,c2,rfl⟩ := Own.slice ho;obtain rfl : m2 = m := (Own.len ho).trans Hsl.out;have HR : Hid (RInts Any w2 (.slice a2 m2 c2) ss) := Lib.hid (RSl.mono (fun _ _ _ h => h) (fun _ _ => trivial) (Own.rsl ho (by rw [Hsl.out];omega)));clear ho))
 have hbw := hb0.trans (hb.mono (by simp))
 have Hbw := Lib.hid hbw
 clear hb0 hb hbw
 go_loop [6,7,13] (fun _ _ i => ∃ k : Nat,k ≤ m2 ∧ i = .int .i64 k ∧ Hid (∀ j (h : j < ss.length),j < k → ss[j] = (j : Int))) (fun _ _ i => m2 - (intOf i).toNat)
 case atStart => exact ⟨0,Nat.zero_le _,rfl,Lib.hid (fun j h hj => by omega)⟩
 case round =>
  obtain ⟨k,hk,rfl,hat⟩ := hrel
  by_cases hlt : k < m2
  ·obtain ⟨b, off, c, rfl, -, hbl, hcl, hd⟩ := RSl.at1 HR.out k (by rw [Hsl.out]; exact hlt)
   obtain ⟨rfl,hwf⟩ := hd.open
   by_cases he : ss[k]'(by rw [Hsl.out];exact hlt) = (k : Int)
   ·have hat2 : ∀ j (h : j < ss.length), j < k + 1 → ss[j] = (j : Int) := fun j h hj => by
     rcases Nat.lt_succ_iff_lt_or_eq.1 hj with h3 | rfl
     ·exact hat.out j h h3
     ·exact he
    have Hat2 := Lib.hid hat2
    rw [he] at hcl
    clear he hat2 hwf
    go_wp2
    go_round
    case rel => exact ⟨k + 1,by omega,by go_num,Hat2⟩
    case measure => simp [intOf];omega
   ·have hf : B = false := by
     rw [Hspec.out,Bool.and_eq_false_iff];left
     exact decide_eq_false fun hh => he (hh k _)
    obtain ⟨x,hx⟩ : ∃ x,ss[k]'(by rw [Hsl.out];exact hlt) = x := ⟨_,rfl⟩
    rw [hx] at hcl he
    have hne : ((k : Int) != x) = true := by simpa using fun e : (k : Int) = x => he e.symm
    clear he hwf hx
    go_wp2
    go_ret
    exact ⟨qaa rfl,Hbw.out⟩
  ·obtain rfl : k = m2 := by omega
   have hf : B = decide ((k : Int) = cands) := by
    rw [Hspec.out,decide_eq_true (fun i h => hat.out i h (by rw [Hsl.out] at h;exact h)),Bool.true_and]
   clear hk
   go_wp2
   go_ret
   exact ⟨qaa (by rw [Bool.eq_iff_iff];simp),Hbw.out⟩
end

section
open Go Go.RowKit Go.Shelf

theorem countI_c {p : Prof} {kind seats most : Int} {lot : List Int} (h : chkP p = 0) : countI p kind seats most lot = if p.kind ≠ kind then 8 else if seats < 1 ∨ most < seats ∨ 10 < seats ∨ lotB lot p.cands = false then 2 else 0 := by
 rw [countI]
 by_cases hk : p.kind = kind
 ·rw [if_neg (show ¬ (chkP p ≠ 0 ∨ p.kind ≠ kind) by simp [h,hk]),if_neg (show ¬ p.kind ≠ kind by simp [hk])]
 ·rw [if_pos (show chkP p ≠ 0 ∨ p.kind ≠ kind from .inr hk),if_pos hk]
set_option maxHeartbeats 2000000 in
set_option maxRecDepth 100000 in
theorem choCheck (S T : Nat → Prop) (u v : Value) (p : Prof) (kind seats most : Int) (lot : List Int) (w : World) (h : VProf S w u p) (hv : RInts T w v lot) (hlo : lot.length ≤ 1000000) :
  Calls Tryz.prog 61 #[u,.int .u8 kind,.int .i64 seats,.int .i64 most,v] w fun e w' => e = .returned (.int .i64 (countI p kind seats most lot)) ∧ Below w.heap.size w w' := by
 have h0 := h
 obtain ⟨a,cap,rfl,-,-,-⟩ := h
 obtain ⟨a2,cap2,rfl,-,-⟩ := RSl.shape hv
 have hb0 := qa1 w (.cells #[.int .i64 p.cands,.int .u8 p.kind,.slice a p.rows.length cap] 24)
 have hbx := qa8 w (.cells #[.int .i64 p.cands,.int .u8 p.kind,.slice a p.rows.length cap] 24)
 have hC := profCheck S _ p _ (h0.same (.of_below hb0))
 have hL := fun W (hW : Below w.heap.size w W) => choLot T _ lot p.cands W (hv.same (.of_below hW)) hlo
 obtain ⟨q,hq⟩ : ∃ q,chkP p = q := ⟨_,rfl⟩
 obtain ⟨n,hn⟩ : ∃ n,p.rows.length = n := ⟨_,rfl⟩
 obtain ⟨nl,hnl⟩ : ∃ nl,lot.length = nl := ⟨_,rfl⟩
 obtain ⟨cc,hcc⟩ : ∃ c,p.cands = c := ⟨_,rfl⟩
 obtain ⟨kk,hkk⟩ : ∃ c,p.kind = c := ⟨_,rfl⟩
 have hcr := fun hc => countI_c (p := p) (kind := kind) (seats := seats) (most := most) (lot := lot) hc
 have hc8 : q ≠ 0 → countI p kind seats most lot = 8 := fun h => by rw [countI,if_pos (.inl (by rw [hq];exact h))]
 rw [hq,hcc,hkk] at hcr
 rw [hq] at hC
 rw [hcc,hkk,hn] at hC hb0 hbx
 rw [hnl,hcc] at hL
 rw [hcc,hkk,hn,hnl]
 obtain ⟨lb,hlb⟩ : ∃ lb,lotB lot cc = lb := ⟨_,rfl⟩
 rw [hlb] at hL hcr
 obtain ⟨I,hI⟩ : ∃ I,countI p kind seats most lot = I := ⟨_,rfl⟩
 rw [hI] at hcr hc8 ⊢
 have HC := Lib.hid hC;have HL := Lib.hid hL;have Hbx := Lib.hid hbx
 clear hC hL hbx h0 hv hn hnl hcc hkk hlb hI hq
 by_cases hq : q = 0
 ·subst hq
  replace hcr := hcr rfl
  clear hc8
  by_cases hk : kk = kind
  ·rw [if_neg (by simp [hk])] at hcr
   have hkq : (kk != kind) = false := by simpa using hk
   have hways : (seats < 1 ∧ I = 2) ∨ (¬ seats < 1 ∧ most < seats ∧ I = 2) ∨ (¬ seats < 1 ∧ ¬ most < seats ∧ 10 < seats ∧ I = 2) ∨ (¬ seats < 1 ∧ ¬ most < seats ∧ ¬ 10 < seats ∧ ((lb = false ∧ I = 2) ∨ (lb = true ∧ I = 0))) := by
    by_cases h1 : seats < 1
    ·exact .inl ⟨h1,by rw [hcr,if_pos (.inl h1)]⟩
    ·by_cases h2 : most < seats
     ·exact .inr (.inl ⟨h1,h2,by rw [hcr,if_pos (.inr (.inl h2))]⟩)
     ·by_cases h3 : 10 < seats
      ·exact .inr (.inr (.inl ⟨h1,h2,h3,by rw [hcr,if_pos (.inr (.inr (.inl h3)))]⟩))
      ·refine .inr (.inr (.inr ⟨h1, h2, h3, ?_⟩))
       cases lb
       ·exact .inl ⟨rfl,by rw [hcr,if_pos (.inr (.inr (.inr rfl)))]⟩
       ·exact .inr ⟨rfl,by rw [hcr,if_neg (by simp [h1,h2,h3])]⟩
   clear hcr hk
   rcases hways with ⟨h1,rfl⟩ | ⟨h1,h2,rfl⟩ | ⟨h1,h2,h3,rfl⟩ | ⟨h1,h2,h3,⟨rfl,rfl⟩ | ⟨rfl,rfl⟩⟩
   all_goals
    go_enter Tryz.func61,Tryz.ntmps61
    go_wp2_with (first
     | (go_at_call 70;refine HC.out.mono ?_;rintro e w1 ⟨rfl,hbN⟩;have hq1 := hb0.trans (hbN.mono (by simp));obtain ⟨-,gc,-⟩ := qa6 hbN (by simp) Hbx.out;have gc0 := gc 0;have gc1 := gc 1;clear gc)
     | (go_at_call 119;refine (HL.out _ hq1).mono ?_;rintro e w2 ⟨rfl,hb2⟩;replace hq1 := hq1.trans (hb2.mono hq1.size)))
    go_ret
    exact ⟨rfl,hq1⟩
  ·rw [if_pos hk] at hcr
   subst hcr
   have hkq : (kk != kind) = true := by simpa using hk
   clear hk
   go_enter Tryz.func61,Tryz.ntmps61
   go_wp2_with (go_at_call 70;refine HC.out.mono ?_;rintro e w1 ⟨rfl,hbN⟩;have hq1 := hb0.trans (hbN.mono (by simp));obtain ⟨-,gc,-⟩ := qa6 hbN (by simp) Hbx.out;have gc0 := gc 0;have gc1 := gc 1;clear gc)
   go_ret
   exact ⟨rfl,hq1⟩
 ·have hI := hc8 hq
  subst hI
  have hqb : (q != 0) = true := by simpa using hq
  clear hcr hc8 hq
  go_enter Tryz.func61,Tryz.ntmps61
  go_wp2_with (go_at_call 70;refine HC.out.mono ?_;rintro e w1 ⟨rfl,hbN⟩;have hq1 := hb0.trans (hbN.mono (by simp)))
  go_ret
  exact ⟨rfl,hq1⟩
end
end Go.Proofs.YthcbkhfmdginiaaGreat
