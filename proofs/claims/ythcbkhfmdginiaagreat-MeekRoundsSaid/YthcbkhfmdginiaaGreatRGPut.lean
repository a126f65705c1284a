/- Texts of one claim,put together: Ref08,Ref26,Ref26b,Copy,Copy2,TwinR,PutS,PutG,PutR,Sizes,Oct. -/
import Derived.Test.YthcbkhfmdginiaaGreatRGBal
import Derived.Test.YthcbkhfmdginiaaGreatRGFoot
import Derived.Test.YthcbkhfmdginiaaGreatProg
import Derived.WalkSpells
import Derived.WalkLawsBesides
import Derived.Deep.RegionLaw
import Derived.Laws.BitsAllLaws

namespace Go.Proofs.YthcbkhfmdginiaaGreat
section
open Go Go.RowKit Go.Shelf

set_option maxHeartbeats 400000 in
theorem place08 (S : Nat → Prop) (v : Value) (xs : List Int) (n : Int) (w : World) (h : RInts S w v xs) :
  Calls Tryz.prog 146 #[v,.int .i64 n] w fun e w' => e = .returned (.int .i64 (idxB (fun m => decide (m = n)) xs)) ∧ w = w' := by
 obtain ⟨a,cap,rfl,h1,h2⟩ := RSl.shape h
 go_enter Tryz.func146,Tryz.ntmps146
 go_wp2
 go_loop [5] (fun i => ∃ k : Nat,k ≤ xs.length ∧ i = .int .i64 k ∧ Hid ((xs.take k).any (fun m => decide (m = n)) = false)) (fun i => xs.length - (intOf i).toNat)
 case atStart => exact ⟨0,Nat.zero_le _,rfl,Lib.hid rfl⟩
 case round =>
  obtain ⟨k,hk,rfl,hg⟩ := hrel
  by_cases hlt : k < xs.length
  ·obtain ⟨b, off, c, rfl, hS, hbw, hc, hx⟩ := RSl.at1 h k hlt
   obtain ⟨rfl,-⟩ := hx.open
   by_cases he : xs[k] = n
   ·have he' : (xs[k] == n) = true := by simpa using he
    have He := Lib.hid he;clear he
    go_wp2
    go_ret
    exact ⟨qac (idxB_at hlt hg.out (by simpa using He.out)).symm,rfl⟩
   ·have he' : (xs[k] == n) = false := by simpa using he
    have He := Lib.hid he;clear he
    go_wp2
    go_round
    case rel => exact ⟨k + 1,by omega,by go_num,Lib.hid (by rw [any_take_succ _ _ _ hlt,hg.out];simpa using He.out)⟩
    case measure => simp [intOf];omega
  ·go_wp2
   go_ret
   rw [List.take_of_length_le (by omega)] at hg
   exact ⟨qac (idxB_none hg.out).symm,rfl⟩

set_option maxHeartbeats 1000000 in
theorem fineRef_score (S : Nat → Prop) (v : Value) (x : Blt) (c : Int) (w : World) (h : VBlt S w v x) (h3 : x.kind = 3) :
  Calls Tryz.prog 97 #[v,.int .i64 c] w (FineGives (fineB x c) w) := by
 have hfb : fineB x c = (inB 11 x.marks && decide ((x.marks.length : Int) = c)) := by rw [fineB,if_pos h3]
 rw [hfb];clear hfb
 obtain ⟨kind,marks⟩ := x
 obtain ⟨cc,d,rfl,hB⟩ := h
 obtain ⟨a,cap,rfl,rfl,hl,-,-,h⟩ := hB.open
 clear hB
 simp only at h3 h hl ⊢
 subst h3
 have hb0 : Below w.heap.size w (w.alloc (.cells #[.int .u8 3,.slice a marks.length cap] 61)) := (Below.refl _ _).alloc (Nat.le_refl _) _
 go_enter Tryz.func97,Tryz.ntmps97
 go_wp2
 go_loopw [6] (fun i wr => ∃ k : Nat,k ≤ marks.length ∧ i = .int .i64 k ∧ Hid (∀ j,(hj : j < marks.length) → j < k → 0 ≤ marks[j] ∧ marks[j] < 11) ∧ wr = w.alloc (.cells #[.int .u8 3,.slice a marks.length cap] 61)) (fun i _ => marks.length - (intOf i).toNat)
 case atStart => exact ⟨0,Nat.zero_le _,rfl,Lib.hid (fun j _ h => by omega),rfl⟩
 case round =>
  obtain ⟨k,hk,rfl,hg,rfl⟩ := hrel
  by_cases hlt : k < marks.length
  ·obtain ⟨b, off, c0, rfl, hS, hbw, hc, hx⟩ := RSl.at1 (h.same (.of_below hb0)) k hlt
   obtain ⟨rfl,-⟩ := hx.open
   by_cases hi1 : marks[k] < 0
   ·go_wp2
    go_ret
    exact ⟨qaa (by rw [inB_false k hlt (by omega)];rfl),hb0⟩
   by_cases hi2 : 10 < marks[k]
   ·go_wp2
    go_ret
    exact ⟨qaa (by rw [inB_false k hlt (by omega)];rfl),hb0⟩
   go_wp2
   refine ⟨⟨k + 1,by omega,by go_num,Lib.hid (fun j hj hjk => ?_),trivial⟩,by simp [intOf];omega⟩
   by_cases e : j = k
   ·subst e;omega
   ·exact hg.out j hj (by omega)
  ·have hin : inB 11 marks = true := List.all_eq_true.2 (fun m hm => by obtain ⟨j, hj, rfl⟩ := List.getElem_of_mem hm; exact decide_eq_true (hg.out j hj (by omega)))
   have Hin := Lib.hid hin;clear hin
   go_wp2
   go_ret
   exact ⟨qaa (by rw [Hin.out];rfl),hb0⟩

set_option maxHeartbeats 400000 in
theorem fineRef_else (S : Nat → Prop) (v : Value) (x : Blt) (c : Int) (w : World) (h : VBlt S w v x) (h1 : x.kind ≠ 1) (h2 : x.kind ≠ 2) (h3 : x.kind ≠ 3) :
  Calls Tryz.prog 97 #[v,.int .i64 c] w (FineGives (fineB x c) w) := by
 have hfb : fineB x c = false := by rw [fineB,if_neg h3,if_neg h2,if_neg h1]
 rw [hfb];clear hfb
 obtain ⟨kind,marks⟩ := x
 obtain ⟨cc,d,rfl,hB⟩ := h
 obtain ⟨a,cap,rfl,rfl,hl,-,-,h⟩ := hB.open
 clear hB
 simp only at h1 h2 h3 h hl ⊢
 have e3 : (kind == 3) = false := by simpa using h3
 have e1 : (kind != 1) = true := by simpa using h1
 have e2 : (kind != 2) = true := by simpa using h2
 clear h1 h2 h3
 go_enter Tryz.func97,Tryz.ntmps97
 go_wp2
 go_ret
 exact ⟨rfl,(Below.refl _ _).alloc (Nat.le_refl _) _⟩

structure GoodTo (kind c : Int) (l : List Int) (k : Nat) : Prop where
 inr : ∀ j,(hj : j < l.length) → j < k → 0 ≤ l[j] ∧ l[j] < c
 one : ∀ k',(hk' : k' < l.length) → k' < k → ∀ j,(hj : j < k') → l[j] ≠ l[k']
 up : kind = 2 → ∀ i,(hi : i + 1 < l.length) → i + 1 < k → l[i] ≤ l[i + 1]
theorem GoodTo.zero (kind c : Int) (l : List Int) : GoodTo kind c l 0 := ⟨fun _ _ h => by omega,fun _ _ h => by omega,fun _ _ _ h => by omega⟩
theorem GoodTo.succ {kind c : Int} {l : List Int} {k : Nat} (h : GoodTo kind c l k) (hk : k < l.length) (h1 : 0 ≤ l[k] ∧ l[k] < c) (h2 : (l.take k).any (fun m => decide (m = l[k])) = false)
  (h3 : kind = 2 → ∀ i,(hi : i + 1 = k) → l[i] ≤ l[k]) : GoodTo kind c l (k + 1) := by
 refine ⟨fun j hj hjk => ?_,fun k' hk' hlt j hj => ?_,fun hkd i hi hlt => ?_⟩
 ·by_cases e : j = k
  ·subst e;exact h1
  ·exact h.inr j hj (by omega)
 ·by_cases e : k' = k
  ·subst e
   intro he
   have := List.any_eq_false.1 h2 l[j] (List.mem_take_iff_getElem.2 ⟨j,by omega,rfl⟩)
   simp [he] at this
  ·exact h.one k' hk' (by omega) j hj
 ·by_cases e : i + 1 = k
  ·subst e;exact h3 hkd i rfl
  ·exact h.up hkd i hi (by omega)
theorem GoodTo.fine {x : Blt} {c : Int} (h : GoodTo x.kind c x.marks x.marks.length) (hk : x.kind = 1 ∨ x.kind = 2) : fineB x c = true := by
 have hin : inB c x.marks = true := List.all_eq_true.2 (fun m hm => by obtain ⟨j,hj,rfl⟩ := List.getElem_of_mem hm;exact decide_eq_true (h.inr j hj hj))
 have hon : onceB x.marks = true := onceB_of (fun k' hk' j hj => h.one k' hk' hk' j hj)
 rcases hk with hk | hk
 ·simp [fineB,hk,hin,hon]
 ·have hup : upB x.marks = true := upB_of (fun i hi => h.up hk i hi hi)
  simp [fineB,hk,hin,hon,hup]
theorem fine_not_in {x : Blt} {c : Int} (hk : x.kind = 1 ∨ x.kind = 2) (k : Nat) (hlt : k < x.marks.length) (h : ¬ (0 ≤ x.marks[k] ∧ x.marks[k] < c)) : fineB x c = false := by
 have := inB_false k hlt h
 rcases hk with hk | hk <;> simp [fineB,hk,this]
theorem fine_not_one {x : Blt} {c : Int} (hk : x.kind = 1 ∨ x.kind = 2) (k : Nat) (hlt : k < x.marks.length) (h : (x.marks.take k).any (fun m => decide (m = x.marks[k])) = true) : fineB x c = false := by
 obtain ⟨m,hm,he⟩ := List.any_eq_true.1 h
 obtain ⟨i,hi,rfl⟩ := List.getElem_of_mem hm
 simp only [List.length_take] at hi
 rw [List.getElem_take] at he
 have := onceB_false i k (by omega) hlt (by simpa using he)
 rcases hk with hk | hk <;> simp [fineB,hk,this]
theorem fine_not_up {x : Blt} {c : Int} (hk : x.kind = 2) (i : Nat) (hlt : i + 1 < x.marks.length) (h : x.marks[i + 1] ≤ x.marks[i]) : fineB x c = false := by
 by_cases e : x.marks[i + 1] = x.marks[i]
 ·have := onceB_false i (i + 1) (by omega) hlt e.symm
  simp [fineB,hk,this]
 ·have := upB_false i hlt (by omega)
  simp [fineB,hk,this]
set_option maxHeartbeats 2000000 in
theorem fineRef_rank (S : Nat → Prop) (v : Value) (x : Blt) (c : Int) (w : World) (h : VBlt S w v x) (h3 : x.kind = 1) :
  Calls Tryz.prog 97 #[v,.int .i64 c] w (FineGives (fineB x c) w) := by
 obtain ⟨kind,marks⟩ := x
 obtain ⟨cc,d,rfl,hB⟩ := h
 obtain ⟨a,cap,rfl,rfl,hl,-,-,h⟩ := hB.open
 clear hB
 simp only at h3 h hl ⊢
 subst h3
 have hcap := RSl.cap h
 go_enter Tryz.func97,Tryz.ntmps97
 go_wp2
 go_loopw [7] (fun i wr => ∃ k : Nat,k ≤ marks.length ∧ i = .int .i64 k ∧ GoodTo 1 c marks k ∧ Below w.heap.size w wr ∧ wr.heap[w.heap.size]? = some (.cells #[.int .u8 1,.slice a marks.length cap] 61 (0,0))) (fun i _ => marks.length - (intOf i).toNat)
 case atStart => exact ⟨0,Nat.zero_le _,rfl,GoodTo.zero _ _ _,(Below.refl _ _).alloc (Nat.le_refl _) _,qa8 _ _⟩
 case round =>
  obtain ⟨k,hk,rfl,hg,hb,hbx⟩ := hrel
  by_cases hlt : k < marks.length
  ·obtain ⟨b, off, c0, rfl, hS, hbw0, hc0, hx⟩ := RSl.at1 h k hlt
   obtain ⟨rfl,-⟩ := hx.open
   have hc := (Same.of_below (S := Any) hb).cell trivial hc0
   obtain ⟨-,hbc,hbf⟩ := qa6 (Below.refl wr.heap.size wr) (qa0 hbx) hbx
   by_cases hi1 : marks[k] < 0
   ·go_wp2
    go_ret
    exact ⟨qaa (fine_not_in (x := ⟨1,marks⟩) (by simp) k hlt (by simp;omega)).symm,hb⟩
   by_cases hi2 : c ≤ marks[k]
   ·go_wp2
    go_ret
    exact ⟨qaa (fine_not_in (x := ⟨1,marks⟩) (by simp) k hlt (by simp;omega)).symm,hb⟩
   have ekind := fun p => qa7 (w := wr) (a := ⟨w.heap.size,0,none⟩) (v := .int .u8 1) (hbc 0) p
   by_cases hpos : (0 : Int) < k
   ·have hd1 : decide ((0 : Int) < k) = true := decide_eq_true hpos
    have hd2 : decide (0 < k) = true := decide_eq_true (by omega)
    go_wp2
    refine qa3 (by kernel_rfl) (by kernel_rfl) ?_
    repeat (go_big_quiet_step (fail))
    refine wpQuiet_nil ?_
    intro _ hw';obtain ⟨p1,rfl⟩ := hw'
    have hbx := (qa6 (qa4 wr p1) (qa0 hbx) hbx).1
    have hbW : Below w.heap.size w (ext wr p1) := hb.trans ((qa4 wr p1).mono hb.size)
    obtain ⟨W,hW⟩ : ∃ W,W = ext wr p1 := ⟨_,rfl⟩
    rw [← hW] at hbx hbW ⊢
    clear hW
    go_wp2
    have hP := fun p => place08 S _ (marks.take (k)) marks[k] (ext W p) (RSl.take (h.same (.of_below (hbW.trans ((qa4 W p).mono hbW.size)))) (k) hk)
    have hcW := fun p => qa7 (w := W) ((Same.of_below (S := Any) hbW).cell trivial hc0) p
    obtain ⟨I,hI⟩ : ∃ I,idxB (fun m => decide (m = marks[k])) (marks.take (k)) = I := ⟨_,rfl⟩
    have hany : decide (0 ≤ I) = (marks.take (k)).any (fun m => decide (m = marks[k])) := by rw [← hI];exact idxB_any _ _
    rw [hI] at hP
    have HP := Lib.hid hP;have Hany := Lib.hid hany;clear hP hI hany
    refine qa3 (by kernel_rfl) (by kernel_rfl) ?_
    repeat (go_big_quiet_step ((go_at_call 146;have hh := HP.out;exact calls_ext' (v := .int .i64 I) (hh _))))
    refine wpQuiet_nil ?_
    intro _ hw';obtain ⟨p2,rfl⟩ := hw'
    have hbW2 := hbW.trans ((qa4 W p2).mono hbW.size)
    go_wp2
    ·have hI : 0 ≤ I := by assumption
     go_ret
     exact ⟨qaa (fine_not_one (x := ⟨1,marks⟩) (by simp) (k) hlt (by rw [← Hany.out,decide_eq_true hI])).symm,hbW2⟩
    ·have hI : I < 0 := by assumption
     exact ⟨⟨k + 1,by omega,by go_num,hg.succ hlt ⟨by omega,by omega⟩ (by rw [← Hany.out];exact decide_eq_false (by omega)) (fun h => by simp at h),hbW2,(qa6 (qa4 W p2) (by have := hbW.size;have := qa0 hbx;omega) hbx).1⟩,by simp [intOf];omega⟩
   ·have hd1 : decide ((0 : Int) < k) = false := decide_eq_false hpos
    have hd2 : decide (0 < k) = false := decide_eq_false (by omega)
    go_wp2
    refine qa3 (by kernel_rfl) (by kernel_rfl) ?_
    repeat (go_big_quiet_step (fail))
    refine wpQuiet_nil ?_
    intro _ hw';obtain ⟨p1,rfl⟩ := hw'
    have hbx := (qa6 (qa4 wr p1) (qa0 hbx) hbx).1
    have hbW : Below w.heap.size w (ext wr p1) := hb.trans ((qa4 wr p1).mono hb.size)
    obtain ⟨W,hW⟩ : ∃ W,W = ext wr p1 := ⟨_,rfl⟩
    rw [← hW] at hbx hbW ⊢
    clear hW
    go_wp2
    have hP := fun p => place08 S _ (marks.take (k)) marks[k] (ext W p) (RSl.take (h.same (.of_below (hbW.trans ((qa4 W p).mono hbW.size)))) (k) hk)
    have hcW := fun p => qa7 (w := W) ((Same.of_below (S := Any) hbW).cell trivial hc0) p
    obtain ⟨I,hI⟩ : ∃ I,idxB (fun m => decide (m = marks[k])) (marks.take (k)) = I := ⟨_,rfl⟩
    have hany : decide (0 ≤ I) = (marks.take (k)).any (fun m => decide (m = marks[k])) := by rw [← hI];exact idxB_any _ _
    rw [hI] at hP
    have HP := Lib.hid hP;have Hany := Lib.hid hany;clear hP hI hany
    refine qa3 (by kernel_rfl) (by kernel_rfl) ?_
    repeat (go_big_quiet_step ((go_at_call 146;have hh := HP.out;exact calls_ext' (v := .int .i64 I) (hh _))))
    refine wpQuiet_nil ?_
    intro _ hw';obtain ⟨p2,rfl⟩ := hw'
    have hbW2 := hbW.trans ((qa4 W p2).mono hbW.size)
    go_wp2
    ·have hI : 0 ≤ I := by assumption
     go_ret
     exact ⟨qaa (fine_not_one (x := ⟨1,marks⟩) (by simp) (k) hlt (by rw [← Hany.out,decide_eq_true hI])).symm,hbW2⟩
    ·have hI : I < 0 := by assumption
     exact ⟨⟨k + 1,by omega,by go_num,hg.succ hlt ⟨by omega,by omega⟩ (by rw [← Hany.out];exact decide_eq_false (by omega)) (fun h => by simp at h),hbW2,(qa6 (qa4 W p2) (by have := hbW.size;have := qa0 hbx;omega) hbx).1⟩,by simp [intOf];omega⟩
  ·have hf : fineB ⟨1, marks⟩ c = true := by
    obtain rfl : k = marks.length := by omega
    exact GoodTo.fine (x := ⟨1,marks⟩) hg (by simp)
   have Hf := Lib.hid hf;clear hf
   go_wp2
   go_ret
   exact ⟨qaa Hf.out.symm,hb⟩
set_option maxHeartbeats 2000000 in
theorem fineRef_mark (S : Nat → Prop) (v : Value) (x : Blt) (c : Int) (w : World) (h : VBlt S w v x) (h3 : x.kind = 2) :
  Calls Tryz.prog 97 #[v,.int .i64 c] w (FineGives (fineB x c) w) := by
 obtain ⟨kind,marks⟩ := x
 obtain ⟨cc,d,rfl,hB⟩ := h
 obtain ⟨a,cap,rfl,rfl,hl,-,-,h⟩ := hB.open
 clear hB
 simp only at h3 h hl ⊢
 subst h3
 have hcap := RSl.cap h
 go_enter Tryz.func97,Tryz.ntmps97
 go_wp2
 go_loopw [7] (fun i wr => ∃ k : Nat,k ≤ marks.length ∧ i = .int .i64 k ∧ GoodTo 2 c marks k ∧ Below w.heap.size w wr ∧ wr.heap[w.heap.size]? = some (.cells #[.int .u8 2,.slice a marks.length cap] 61 (0,0))) (fun i _ => marks.length - (intOf i).toNat)
 case atStart => exact ⟨0,Nat.zero_le _,rfl,GoodTo.zero _ _ _,(Below.refl _ _).alloc (Nat.le_refl _) _,qa8 _ _⟩
 case round =>
  obtain ⟨k,hk,rfl,hg,hb,hbx⟩ := hrel
  by_cases hlt : k < marks.length
  ·obtain ⟨b, off, c0, rfl, hS, hbw0, hc0, hx⟩ := RSl.at1 h k hlt
   obtain ⟨rfl,-⟩ := hx.open
   have hc := (Same.of_below (S := Any) hb).cell trivial hc0
   obtain ⟨-,hbc,hbf⟩ := qa6 (Below.refl wr.heap.size wr) (qa0 hbx) hbx
   by_cases hi1 : marks[k] < 0
   ·go_wp2
    go_ret
    exact ⟨qaa (fine_not_in (x := ⟨2,marks⟩) (by simp) k hlt (by simp;omega)).symm,hb⟩
   by_cases hi2 : c ≤ marks[k]
   ·go_wp2
    go_ret
    exact ⟨qaa (fine_not_in (x := ⟨2,marks⟩) (by simp) k hlt (by simp;omega)).symm,hb⟩
   have ekind := fun p => qa7 (w := wr) (a := ⟨w.heap.size,0,none⟩) (v := .int .u8 2) (hbc 0) p
   by_cases hpos : (0 : Int) < k
   ·obtain ⟨j, rfl⟩ : ∃ j, k = j + 1 := ⟨k - 1, by omega⟩
    obtain ⟨b2,off2,c2,he2,hS2,hbw2,hd0,hx2⟩ := RSl.at1 h j (by omega)
    obtain ⟨rfl,-⟩ := hx2.open
    simp only [Option.some.injEq,Addr.mk.injEq,and_true] at he2
    obtain ⟨rfl,rfl⟩ := he2
    have e1 := fun p => qa7 (w := wr) ((Same.of_below (S := Any) hb).cell trivial hc0) p
    have e2 := fun p => qa7 (w := wr) ((Same.of_below (S := Any) hb).cell trivial hd0) p
    by_cases hle : marks[j + 1] ≤ marks[j]
    ·have hd1 : decide (marks[j + 1] ≤ marks[j]) = true := decide_eq_true hle
     go_wp2
     refine qa3 (by kernel_rfl) (by kernel_rfl) ?_
     repeat (go_big_quiet_step (fail))
     refine wpQuiet_nil ?_
     intro _ hw';obtain ⟨p1,rfl⟩ := hw'
     have hbx := (qa6 (qa4 wr p1) (qa0 hbx) hbx).1
     have hbW : Below w.heap.size w (ext wr p1) := hb.trans ((qa4 wr p1).mono hb.size)
     obtain ⟨W,hW⟩ : ∃ W,W = ext wr p1 := ⟨_,rfl⟩
     rw [← hW] at hbx hbW ⊢
     clear hW
     go_wp2
     go_ret
     exact ⟨qaa (fine_not_up (x := ⟨2,marks⟩) rfl j hlt hle).symm,hbW⟩
    ·have hd1 : decide (marks[j + 1] ≤ marks[j]) = false := decide_eq_false hle
     go_wp2
     refine qa3 (by kernel_rfl) (by kernel_rfl) ?_
     repeat (go_big_quiet_step (fail))
     refine wpQuiet_nil ?_
     intro _ hw';obtain ⟨p1,rfl⟩ := hw'
     have hbx := (qa6 (qa4 wr p1) (qa0 hbx) hbx).1
     have hbW : Below w.heap.size w (ext wr p1) := hb.trans ((qa4 wr p1).mono hb.size)
     obtain ⟨W,hW⟩ : ∃ W,W = ext wr p1 := ⟨_,rfl⟩
     rw [← hW] at hbx hbW ⊢
     clear hW
     go_wp2
     have hk : j + 1 ≤ marks.length := hk
     have hP := fun p => place08 S _ (marks.take (j + 1)) marks[j + 1] (ext W p) (RSl.take (h.same (.of_below (hbW.trans ((qa4 W p).mono hbW.size)))) (j + 1) hk)
     have hcW := fun p => qa7 (w := W) ((Same.of_below (S := Any) hbW).cell trivial hc0) p
     obtain ⟨I,hI⟩ : ∃ I,idxB (fun m => decide (m = marks[j + 1])) (marks.take (j + 1)) = I := ⟨_,rfl⟩
     have hany : decide (0 ≤ I) = (marks.take (j + 1)).any (fun m => decide (m = marks[j + 1])) := by rw [← hI];exact idxB_any _ _
     rw [hI] at hP
     have HP := Lib.hid hP;have Hany := Lib.hid hany;clear hP hI hany
     refine qa3 (by kernel_rfl) (by kernel_rfl) ?_
     repeat (go_big_quiet_step ((go_at_call 146;have hh := HP.out;exact calls_ext' (v := .int .i64 I) (hh _))))
     refine wpQuiet_nil ?_
     intro _ hw';obtain ⟨p2,rfl⟩ := hw'
     have hbW2 := hbW.trans ((qa4 W p2).mono hbW.size)
     go_wp2
     ·have hI : 0 ≤ I := by assumption
      go_ret
      exact ⟨qaa (fine_not_one (x := ⟨2,marks⟩) (by simp) (j + 1) hlt (by rw [← Hany.out,decide_eq_true hI])).symm,hbW2⟩
     ·have hI : I < 0 := by assumption
      exact ⟨⟨j + 1 + 1,by omega,by go_num,hg.succ hlt ⟨by omega,by omega⟩ (by rw [← Hany.out];exact decide_eq_false (by omega)) (fun _ i hi => by obtain rfl : i = j := (by omega);omega),hbW2,(qa6 (qa4 W p2) (by have := hbW.size;have := qa0 hbx;omega) hbx).1⟩,by simp [intOf];omega⟩
   ·have hd1 : decide ((0 : Int) < k) = false := decide_eq_false hpos
    have hd2 : decide (0 < k) = false := decide_eq_false (by omega)
    go_wp2
    refine qa3 (by kernel_rfl) (by kernel_rfl) ?_
    repeat (go_big_quiet_step (fail))
    refine wpQuiet_nil ?_
    intro _ hw';obtain ⟨p1,rfl⟩ := hw'
    have hbx := (qa6 (qa4 wr p1) (qa0 hbx) hbx).1
    have hbW : Below w.heap.size w (ext wr p1) := hb.trans ((qa4 wr p1).mono hb.size)
    obtain ⟨W,hW⟩ : ∃ W,W = ext wr p1 := ⟨_,rfl⟩
    rw [← hW] at hbx hbW ⊢
    clear hW
    go_wp2
    have hP := fun p => place08 S _ (marks.take (k)) marks[k] (ext W p) (RSl.take (h.same (.of_below (hbW.trans ((qa4 W p).mono hbW.size)))) (k) hk)
    have hcW := fun p => qa7 (w := W) ((Same.of_below (S := Any) hbW).cell trivial hc0) p
    obtain ⟨I,hI⟩ : ∃ I,idxB (fun m => decide (m = marks[k])) (marks.take (k)) = I := ⟨_,rfl⟩
    have hany : decide (0 ≤ I) = (marks.take (k)).any (fun m => decide (m = marks[k])) := by rw [← hI];exact idxB_any _ _
    rw [hI] at hP
    have HP := Lib.hid hP;have Hany := Lib.hid hany;clear hP hI hany
    refine qa3 (by kernel_rfl) (by kernel_rfl) ?_
    repeat (go_big_quiet_step ((go_at_call 146;have hh := HP.out;exact calls_ext' (v := .int .i64 I) (hh _))))
    refine wpQuiet_nil ?_
    intro _ hw';obtain ⟨p2,rfl⟩ := hw'
    have hbW2 := hbW.trans ((qa4 W p2).mono hbW.size)
    go_wp2
    ·have hI : 0 ≤ I := by assumption
     go_ret
     exact ⟨qaa (fine_not_one (x := ⟨2,marks⟩) (by simp) (k) hlt (by rw [← Hany.out,decide_eq_true hI])).symm,hbW2⟩
    ·have hI : I < 0 := by assumption
     exact ⟨⟨k + 1,by omega,by go_num,hg.succ hlt ⟨by omega,by omega⟩ (by rw [← Hany.out];exact decide_eq_false (by omega)) (fun _ i hi => by omega),hbW2,(qa6 (qa4 W p2) (by have := hbW.size;have := qa0 hbx;omega) hbx).1⟩,by simp [intOf];omega⟩
  ·have hf : fineB ⟨2, marks⟩ c = true := by
    obtain rfl : k = marks.length := by omega
    exact GoodTo.fine (x := ⟨2,marks⟩) hg (by simp)
   have Hf := Lib.hid hf;clear hf
   go_wp2
   go_ret
   exact ⟨qaa Hf.out.symm,hb⟩
theorem fineRef (S : Nat → Prop) (v : Value) (x : Blt) (c : Int) (w : World) (h : VBlt S w v x) :
  Calls Tryz.prog 97 #[v,.int .i64 c] w (FineGives (fineB x c) w) := by
 by_cases h3 : x.kind = 3
 ·exact fineRef_score S v x c w h h3
 by_cases h2 : x.kind = 2
 ·exact fineRef_mark S v x c w h h2
 by_cases h1 : x.kind = 1
 ·exact fineRef_rank S v x c w h h1
 ·exact fineRef_else S v x c w h h1 h2 h3
end

section
open Go Go.RowKit

theorem Tryz.infoInt : (Tryz.prog.info? 3).map (fun i => (i.zero,i.size,i.bytes)) = some (some (.int .i64 0),1,8) := by kernel_rfl
def GivesOwn {α : Type} (ty : TypeId) (n : Nat) (dec : World → List Value → α → Prop) (xs : List α) (w : World) (e : Ending) (w' : World) : Prop :=
 ∃ v,e = .returned v ∧ Own w.heap.size ty n dec w' v xs ∧ Below w.heap.size w w'
theorem nil_of_none {α : Type} {S : Nat → Prop} {n : Nat} {dec : World → List Value → α → Prop} {w : World} {m cap : Nat} {xs : List α} (h : RSl S n dec w (.slice none m cap) xs) : xs = [] := by
 obtain ⟨a,cap,cells,hv,_,_,_,h⟩ := h
 simp only [Value.slice.injEq] at hv
 obtain ⟨rfl,_⟩ := hv
 rcases h with h | ⟨b,off,h,_⟩
 ·exact h
 ·cases h

set_option maxHeartbeats 400000 in
theorem cloneInts (S : Nat → Prop) (v : Value) (xs : List Int) (w : World) (h : RInts S w v xs) (hl : xs.length ≤ 1000000000) :
  Calls Tryz.prog 120 #[v] w (GivesOwn 3 1 (dInt .i64) xs w) := by
 obtain ⟨a,cap,rfl,h1,h2⟩ := RSl.shape h
 have hnil := fun (w : World) (a : Option Addr) (n c : Nat) => Lib.run_eql_slice_nil (P := Tryz.prog) w 25 3 a n c 0 0 Tryz.underlying25
 cases a with
 | none =>
  obtain rfl := nil_of_none h
  go_enter Tryz.func120,Tryz.ntmps120
  go_wp2
  go_ret
  exact ⟨_,rfl,Own.nil _ _ _ _ _,Below.refl _ _⟩
 | some ad =>
  have hb0 : Below w.heap.size w (w.alloc (.cells #[] 3)) := (Below.refl _ _).alloc (Nat.le_refl _) _
  have hu := RSl.same (dInt.stable (Cut S w.heap.size) .i64) (.of_below hb0) h.cut
  go_enter Tryz.func120,Tryz.ntmps120
  go_wp2_with (at_builtin;refine wpList_app _ Tryz.infoInt rfl rfl Tryz.underlying25 ⟨rfl,by omega,by omega⟩ (dInt.one _) (dInt.stable (Cut S w.heap.size) .i64) w.heap.size (Own.made _ _ _ _ w #[] 0 (Nat.le_refl _) (by simp [maxLen]) rfl) rfl hu rfl (by simp;omega) (by simp) ?_;intro a' c' w' hg hat ho)
  go_ret
  have ho' := ho (.of_grown hg (fun b hb => by simp only [Value.ownBlock,ne_eq,Option.some.injEq];have := hb.2;omega))
  exact ⟨_,rfl,ho',hb0.grown hg (by simp) (by simp [Value.ownBlock])⟩
end

section
open Go Go.RowKit

def atI (l : List Btc) (nm : ByteArray) : Int := idxB (fun b => sameName b.name nm) l
def grow1 (b : Blt) (x : Btc) : Btc := ⟨x.name,x.blts ++ [b]⟩
def put1 (l : List Btc) (nm : ByteArray) (b : Blt) : List Btc := if atI l nm < 0 then l ++ [⟨nm,[b]⟩] else l.modify (atI l nm).toNat (grow1 b)
def fullB (l : List Btc) (nm : ByteArray) : Bool := if atI l nm < 0 then decide (l.length = 16) else ((l[(atI l nm).toNat]?).map fun x => decide (x.blts.length = 64)).getD false
def putI (l : List Btc) (c kind : Int) (nm : ByteArray) (b : Blt) : Int :=
 if recCheck l c kind = 0 then (if nameB nm && fitsB b c kind then (if fullB l nm then 9 else 0) else 2) else recCheck l c kind
def putL (l : List Btc) (c kind : Int) (nm : ByteArray) (b : Blt) : List Btc := if putI l c kind nm b = 0 then put1 l nm b else []
def PutGives (l : List Btc) (c kind : Int) (nm : ByteArray) (b : Blt) (w : World) (e : Ending) (w' : World) : Prop :=
 ∃ v,e = .returned (.tuple #[v,.int .i64 (putI l c kind nm b)]) ∧ WBtcs (From w.heap.size) w' v (putL l c kind nm b) ∧ Below w.heap.size w w'
theorem putL_nil {l : List Btc} {c kind : Int} {nm : ByteArray} {b : Blt} (h : putI l c kind nm b ≠ 0) : putL l c kind nm b = [] := by rw [putL,if_neg h]
theorem PutGives.none {l : List Btc} {c kind : Int} {nm : ByteArray} {b : Blt} {w w' : World} {i : Int} (hi : putI l c kind nm b = i) (h0 : i ≠ 0) (hb : Below w.heap.size w w') :
  PutGives l c kind nm b w (.returned (.tuple #[.slice none 0 0,.int .i64 i])) w' := ⟨_,by rw [hi],by rw [putL_nil (by rw [hi];exact h0)];exact WSl.nil,hb⟩
theorem PutGives.some {l : List Btc} {c kind : Int} {nm : ByteArray} {b : Blt} {w w' : World} {v : Value} {L : List Btc} {base : Nat} (hi : putI l c kind nm b = 0) (hl : putL l c kind nm b = L) (hv : WBtcs (From base) w' v L) (hbase : w.heap.size ≤ base) (hb : Below w.heap.size w w') :
  PutGives l c kind nm b w (.returned (.tuple #[v,.int .i64 0])) w' :=
 ⟨v,by rw [hi],by rw [hl];exact WSl.mono (fun _ _ _ hh => hh.mono (T := From w.heap.size) fun c hc => by simp only [From] at hc ⊢;omega) (fun c hc => by simp only [From] at hc ⊢;omega) hv,hb⟩
end

section
open Go Go.RowKit

section
variable {P : Program} (w : World)
theorem wpList_appV {α : Type} {z : Value} {size bytes : Nat} {ops : Array Oper} {rest : List Oper} {o : Oper} {a : Act} {Q : Exit → Act → World → Prop} {e t : TypeId} (hinfo : (P.info? e).map (fun i => (i.zero,i.size,i.bytes)) = some (some z,size,bytes))
  (hgd : o.guard = none) {s x : Operand} (ho : o.op = .call { callee := .builtin .append,args := #[s,x],argTypes := #[t,t] }) (ht : P.underlying t = some (.slice e))
  (hzs : z.cells.size = size ∧ 0 < size ∧ 0 < bytes) {S T : Nat → Prop} {dec : World → List Value → α → Prop} (h1 : OneC dec) (hst : Stable T dec) (base : Nat)
  {v : Value} {xs : List α} (hown : Own base e size dec w v xs) (hs : a.eval s = v) {u : Value} {ys : List α} (hu : RSl S size dec w u ys) (hx : a.eval x = u)
  (h63 : (xs.length + ys.length) * bytes ≤ 140737488355328) (hbase : base ≤ w.heap.size)
  (h : ∀ a' n' c' w', w.grownBy w' v.ownBlock → ((Value.slice a' n' c').ownBlock = v.ownBlock ∨ (Value.slice a' n' c').ownBlock = some w.heap.size) → (Same T w w' → Own base e size dec w' (.slice a' n' c') (xs ++ ys)) →
   wpList P ops Q rest (a.put o.dst (.slice a' n' c')) w') : wpList P ops Q (o :: rest) a w :=
 wpList_app w hinfo hgd ho ht hzs h1 hst base hown hs hu hx h63 hbase fun a' c' w' => h a' _ c' w'
end
def Gr (y : Sp) (d : Value) (m m' : Nat) : Nat → Prop := fun b => InRow y.lo y.hi d b ∨ (m ≤ b ∧ b < m')
theorem keeps {w w6 w7 : World} {g : Nat} {row : Option Nat} (hg : g < w.heap.size) (hne : some g ≠ row) (hb : Below w.heap.size w w6) {o : Obj} (hgr : (w6.alloc o).grownBy w7 row) : w7.heap[g]? = w.heap[g]? :=
 (hgr.block g (by have := hb.size;simp;omega) hne).trans ((Below.heap_alloc w6 o g (by have := hb.size;omega)).trans (hb.block g hg))
theorem Gr.new {y : Sp} {d : Value} {w w2 : World} {cs : List Value} {b : Blt} (h : wBlt (Span w.heap.size w2.heap.size) w2 cs b) (o : Obj) : wBlt (Gr y d w.heap.size w2.heap.size) (w2.alloc o) cs b :=
 (wBlt.stable _ _ _ _ _ (.of_below ((Below.refl _ _).alloc (Nat.le_refl _) _)) h).mono fun _ hc => .inr hc
theorem Gr.old {y : Sp} {d : Value} {w w2 : World} (h : Own y.lo 61 2 (wBlt (InRow y.lo y.hi d)) w d y.x.blts) (hb : Below w.heap.size w w2) (o : Obj) (m m' : Nat) :
  Own y.lo 61 2 (wBlt (Gr y d m m')) (w2.alloc o) d y.x.blts :=
 Own.dmono (fun _ _ hh => hh.mono fun _ hc => .inl hc) (Own.below (wBlt.stable _) h (hb.alloc hb.size o))
theorem Gr.same {y : Sp} {d : Value} {w w2 w3 : World} {o : Obj} (hgr : (w2.alloc o).grownBy w3 d.ownBlock) (_ : Below w.heap.size w w2) (hd : ∀ b,d.ownBlock = some b → b < w.heap.size) : Same (Gr y d w.heap.size w2.heap.size) (w2.alloc o) w3 :=
 .of_grown hgr fun c hc e => by
  rcases hc with hc | hc
  ·exact hc.2.2 e
  ·have := hd c e.symm;have := hc.1;omega
end

section
open Go Go.RowKit

theorem Own.one {α : Type} {base : Nat} {e : TypeId} {n : Nat} {dec : World → List Value → α → Prop} {w : World} {g : Nat} {cs : List Value} {x : α} (hg : w.heap[g]? = some (.cells cs.toArray e (0,0))) (hb : base ≤ g) (hl : cs.length = n) (h : dec w cs x) :
  Own base e n dec w (.slice (some ⟨g,0,none⟩) 1 1) [x] :=
 ⟨cs,⟨by simp [hl],.inr ⟨g,1,cs.toArray,rfl,hb,hg,Nat.le_refl _,by simp [maxLen],by simp [hl],by simp [← hl]⟩⟩,Dec.single hl h⟩
end

section
open Go Go.RowKit Go.Shelf

theorem wf_i64 {x : Int} (h : (Lit.int .i64 x).wf = true) : -9223372036854775808 ≤ x ∧ x ≤ 9223372036854775807 := by
 simp [Lit.wf,IntKind.min,IntKind.max,IntKind.bits,IntKind.signed] at h
 omega
end

section
open Go Go.RowKit Go.Shelf

def RBytes (S : Nat → Prop) (w : World) (v : Value) (xs : List Int) : Prop := RSl S 1 (dInt .u8) w v xs
theorem RBytes.same {S : Nat → Prop} {w w' : World} {v : Value} {xs : List Int} (hs : Same S w w') (h : RBytes S w v xs) : RBytes S w' v xs := RSl.same (dInt.stable S _) hs h
theorem RSl.sub {α : Type} {S : Nat → Prop} {dec : World → List Value → α → Prop} {w : World} {b off n cap : Nat} {xs : List α} (h : RSl S 1 dec w (.slice (some ⟨b,off,none⟩) n cap) xs) {p q : Nat} (hpq : p ≤ q) (hq : q ≤ xs.length) {cap' : Nat} (hc : q - p ≤ cap') :
  RSl S 1 dec w (.slice (some ⟨b,off + p,none⟩) (q - p) cap') ((xs.drop p).take (q - p)) := by
 obtain ⟨a,cp,cells,hv,h1,h2,h3,h4⟩ := h
 simp only [Value.slice.injEq] at hv
 obtain ⟨rfl,-,rfl⟩ := hv
 have hl : ((xs.drop p).take (q - p)).length = q - p := by rw [List.length_take,List.length_drop];omega
 have hcl : cells.length = xs.length := by have := h3.1;omega
 refine ⟨_,cap',(cells.drop p).take (q - p),by rw [hl],by rw [hl];exact hc,by rw [hl];omega,⟨by rw [hl,List.length_take,List.length_drop];omega,fun i hi => ?_⟩,?_⟩
 ·rw [hl] at hi
  have := h3.2 (p + i) (by omega)
  rw [Nat.mul_one] at this ⊢
  rw [List.getElem_take,List.getElem_drop,List.drop_take,List.drop_drop,List.take_take,Nat.min_eq_left (by omega)]
  exact this
 ·rcases h4 with h4 | ⟨b', off', ha, hS, hc'⟩
  ·left;rw [h4];simp
  ·simp only [Option.some.injEq, Addr.mk.injEq, and_true] at ha
   obtain ⟨rfl,rfl⟩ := ha
   refine .inr ⟨b,off + p,rfl,hS,fun j u hu => ?_⟩
   rw [List.getElem?_take] at hu
   split at hu
   ·rw [List.getElem?_drop] at hu
    have := hc' (p + j) u hu
    rwa [← Nat.add_assoc] at this
   ·cases hu
end
end Go.Proofs.YthcbkhfmdginiaaGreat
