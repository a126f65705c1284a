/- Texts of one claim,put together: Spec,Bal,Bal2,Name,Fits,Chk,Great. -/
import Derived.Test.YthcbkhfmdginiaaGreatRGFoot
import Derived.Test.YthcbkhfmdginiaaGreatProg
import Derived.Test.YthcbkhfmdginiaaGreatShelf
import Derived.WalkKit
import Derived.WalkSpells
import Derived.WalkLawsBesides
import Derived.Lib.Hide
import Derived.Deep.QuietTactic
import Derived.BigQuiet
import Derived.Shelf.GgClosure.StringsIndexFunc
import Derived.Shelf.Abstract

namespace Go.Proofs.YthcbkhfmdginiaaGreat
section

theorem any_take_succ {α : Type} (p : α → Bool) (l : List α) (k : Nat) (h : k < l.length) : (l.take (k + 1)).any p = ((l.take k).any p || p l[k]) := by
 rw [List.take_succ_eq_append_getElem h,List.any_append]
 simp
def upB (l : List Int) : Bool := decide (l.Pairwise (· ≤ ·))
def onceB (l : List Int) : Bool := decide l.Nodup
def inB (c : Int) (l : List Int) : Bool := l.all fun m => decide (0 ≤ m ∧ m < c)
def fineB (x : Blt) (c : Int) : Bool :=
 if x.kind = 3 then inB 11 x.marks && decide ((x.marks.length : Int) = c)
 else if x.kind = 2 then inB c x.marks && (upB x.marks && onceB x.marks)
 else if x.kind = 1 then inB c x.marks && onceB x.marks
 else false

theorem inB_get {c : Int} {l : List Int} (h : inB c l = true) (k : Nat) (hk : k < l.length) : 0 ≤ l[k] ∧ l[k] < c := by
 have := List.all_eq_true.1 h l[k] (List.getElem_mem hk)
 simpa using this
theorem inB_false {c : Int} {l : List Int} (k : Nat) (hk : k < l.length) (h : ¬ (0 ≤ l[k] ∧ l[k] < c)) : inB c l = false := by
 cases hb : inB c l
 ·rfl
 ·exact absurd (inB_get hb k hk) h
theorem onceB_get {l : List Int} (h : onceB l = true) (i k : Nat) (hik : i < k) (hk : k < l.length) : l[i] ≠ l[k] := by
 have := of_decide_eq_true h
 rw [List.nodup_iff_pairwise_ne,List.pairwise_iff_getElem] at this
 exact this i k (by omega) hk hik
theorem onceB_false {l : List Int} (i k : Nat) (hik : i < k) (hk : k < l.length) (h : l[i] = l[k]) : onceB l = false := by
 cases hb : onceB l
 ·rfl
 ·exact absurd h (onceB_get hb i k hik hk)
theorem onceB_of {l : List Int} (h : ∀ k,(hk : k < l.length) → ∀ i,(hi : i < k) → l[i] ≠ l[k]) : onceB l = true := by
 refine decide_eq_true ?_
 rw [List.nodup_iff_pairwise_ne,List.pairwise_iff_getElem]
 exact fun i j hi hj hij => h j hj i hij
theorem upB_get {l : List Int} (h : upB l = true) (i k : Nat) (hik : i < k) (hk : k < l.length) : l[i] ≤ l[k] := by
 have := of_decide_eq_true h
 rw [List.pairwise_iff_getElem] at this
 exact this i k (by omega) hk hik
theorem upB_false {l : List Int} (i : Nat) (h : i + 1 < l.length) (hlt : l[i + 1] < l[i]) : upB l = false := by
 cases hb : upB l
 ·rfl
 ·have := upB_get hb i (i + 1) (by omega) h
  omega
theorem up_far {l : List Int} (h : ∀ i,(h : i + 1 < l.length) → l[i] ≤ l[i + 1]) (i : Nat) : ∀ d,(hd : i + d < l.length) → l[i]'(by omega) ≤ l[i + d]
 | 0,_ => Int.le_refl _
 | d + 1,hd => Int.le_trans (up_far h i d (by omega)) (h (i + d) hd)
theorem upB_of {l : List Int} (h : ∀ i,(h : i + 1 < l.length) → l[i] ≤ l[i + 1]) : upB l = true := by
 refine decide_eq_true ?_
 rw [List.pairwise_iff_getElem]
 intro i j hi hj hij
 obtain ⟨d,rfl⟩ : ∃ d,j = i + d := ⟨j - i,by omega⟩
 exact up_far h i d hj
end

section
open Go Go.RowKit

set_option maxHeartbeats 400000 in
theorem within_t (n lo hi : Int) (w : World) (h1 : lo ≤ n) (h2 : n < hi) :
  Calls Tryz.prog 159 #[.int .i64 n,.int .i64 lo,.int .i64 hi] w fun e w' => e = .returned (.bool true) ∧ w = w' := by
 go_enter Tryz.func159,Tryz.ntmps159
 go_wp2
 go_ret
 exact ⟨rfl,rfl⟩
set_option maxHeartbeats 400000 in
theorem within_f (n lo hi : Int) (w : World) (h : ¬ (lo ≤ n ∧ n < hi)) :
  Calls Tryz.prog 159 #[.int .i64 n,.int .i64 lo,.int .i64 hi] w fun e w' => e = .returned (.bool false) ∧ w = w' := by
 by_cases h1 : lo ≤ n
 ·have h2 : hi ≤ n := by omega
  clear h
  go_enter Tryz.func159,Tryz.ntmps159
  go_wp2
  go_ret
  exact ⟨qaa (decide_eq_false (by omega)),rfl⟩
 ·clear h
  go_enter Tryz.func159,Tryz.ntmps159
  go_wp2
  go_ret
  exact ⟨rfl,rfl⟩

set_option maxHeartbeats 400000 in
theorem isNaN_any (n : Int) (w : World) : Calls Tryz.prog 217 #[.int .i64 n] w fun e w' => e = .returned (.bool false) ∧ w = w' := by
 go_enter Tryz.func217,Tryz.ntmps217
 go_wp2
 go_ret
 exact ⟨rfl,rfl⟩
set_option maxHeartbeats 400000 in
theorem less_any (n m : Int) (w : World) : Calls Tryz.prog 219 #[.int .i64 n,.int .i64 m] w fun e w' => e = .returned (.bool (decide (n < m))) ∧ w' = w := by
 go_enter Tryz.func219,Tryz.ntmps219
 go_wp2_with (go_at_call 217;refine (isNaN_any _ _).mono ?_;rintro e w1 ⟨rfl,rfl⟩)
 go_ret
 exact ⟨rfl,rfl⟩

set_option maxHeartbeats 1000000 in
theorem isSorted (S : Nat → Prop) (v : Value) (xs : List Int) (w : World) (h : RInts S w v xs) :
  Calls Tryz.prog 193 #[v] w fun e w' => e = .returned (.bool (upB xs)) ∧ Below w.heap.size w w' := by
 obtain ⟨a,cap,rfl,h1,h2⟩ := RSl.shape h
 go_enter Tryz.func193,Tryz.ntmps193
 go_wp2
 go_loopw [3] (fun i wr => ∃ n : Int,-1 ≤ n ∧ n < xs.length ∧ i = .int .i64 n ∧ Hid (∀ i,(h : i + 1 < xs.length) → n < i + 1 → xs[i] ≤ xs[i + 1]) ∧ Below w.heap.size w wr) (fun i _ => (intOf i).toNat)
 case atStart => exact ⟨xs.length - 1,by omega,by omega,by go_num,Lib.hid (fun i hi hk => by omega),Below.refl _ _⟩
 case round =>
  obtain ⟨n,hn1,hn2,rfl,hg,hb⟩ := hrel
  by_cases hlt : 0 < n
  ·obtain ⟨j, rfl⟩ : ∃ j : Nat, n = (j : Int) + 1 := ⟨(n - 1).toNat, by omega⟩
   obtain ⟨b,off,c,rfl,hS,hbw,hc,hx⟩ := RSl.at1 (h.same (.of_below hb)) (j + 1) (by omega)
   obtain ⟨rfl,-⟩ := hx.open
   obtain ⟨b2,off2,c2,he,hS2,hbw2,hc2,hx2⟩ := RSl.at1 (h.same (.of_below hb)) j (by omega)
   obtain ⟨rfl,-⟩ := hx2.open
   simp only [Option.some.injEq,Addr.mk.injEq,and_true] at he
   obtain ⟨rfl,rfl⟩ := he
   have hj : j + 1 < xs.length := by omega
   go_wp2
   go_quiet ((go_at_call 219;exact Calls.quiet_of_same (less_any _ _ _)))
   go_wp2
   ·have hlt : xs[j + 1] < xs[j] := by assumption
    go_ret
    exact ⟨qaa (upB_false j hj hlt).symm,below_drewN hb _⟩
   ·have hle : xs[j] ≤ xs[j + 1] := by assumption
    refine ⟨⟨j,by omega,by omega,rfl,Lib.hid (fun i hi hk => ?_),below_drewN hb _⟩,by simp [intOf]⟩
    by_cases e : i = j
    ·subst e;exact hle
    ·exact hg.out i hi (by omega)
  ·go_wp2
   go_ret
   exact ⟨qaa (upB_of fun i hi => hg.out i hi (by omega)).symm,hb⟩

def Seen (g : Nat) (w : World) (l : List Int) : Prop := ∀ i : Nat,i < 10 → w.cell? ⟨g,i,none⟩ = some (.bool (decide ((i : Int) ∈ l))) ∧ w.frozen? ⟨g,i,none⟩ = false
theorem Seen.set {g : Nat} {w : World} {l : List Int} (h : Seen g w l) {m : Int} (h0 : 0 ≤ m) (hm : m < 10) : Seen g (w.setCell ⟨g,m.toNat,none⟩ (.bool true)) (l ++ [m]) := by
 intro i hi
 refine ⟨?_,by rw [World.frozen?_setCell];exact (h i hi).2⟩
 by_cases e : i = m.toNat
 ·subst e
  rw [World.cell?_setCell_same' _ _ _ (by rw [(h _ hi).1];rfl)]
  have : ((m.toNat : Nat) : Int) = m := Int.toNat_of_nonneg h0
  simp [this]
 ·rw [World.cell?_setCell_other _ _ _ _ (by simp), (h i hi).1]
  have : ¬ (i : Int) = m := by omega
  simp [this]
theorem Seen.start {g : Nat} {w : World} {e : TypeId} (h : w.heap[g]? = some (.cells #[.bool false,.bool false,.bool false,.bool false,.bool false,.bool false,.bool false,.bool false,.bool false,.bool false] e (0,0))) : Seen g w [] := by
 intro i hi
 refine ⟨?_,by simp [World.frozen?,h]⟩
 rw [cell_of_row w g i _ e (0,0) h]
 match i,hi with
 | 0,_ => rfl
 | 1,_ => rfl
 | 2,_ => rfl
 | 3,_ => rfl
 | 4,_ => rfl
 | 5,_ => rfl
 | 6,_ => rfl
 | 7,_ => rfl
 | 8,_ => rfl
 | 9,_ => rfl

def FineGives (b : Bool) (w : World) (e : Ending) (w' : World) : Prop := e = .returned (.bool b) ∧ Below w.heap.size w w'

set_option maxHeartbeats 1000000 in
theorem fine_score (S : Nat → Prop) (v : Value) (x : Blt) (c : Int) (w : World) (h : VBlt S w v x) (h3 : x.kind = 3) :
  Calls Tryz.prog 148 #[v,.int .i64 c] w (FineGives (inB 11 x.marks && decide ((x.marks.length : Int) = c)) w) := by
 obtain ⟨kind,marks⟩ := x
 obtain ⟨cc,d,rfl,hB⟩ := h
 obtain ⟨a,cap,rfl,rfl,hl,-,-,h⟩ := hB.open
 clear hB
 simp only at h3 h hl ⊢
 subst h3
 have hb0 : Below w.heap.size w (w.alloc (.cells #[.int .u8 3,.slice a marks.length cap] 61)) := (Below.refl _ _).alloc (Nat.le_refl _) _
 go_enter Tryz.func148,Tryz.ntmps148
 go_wp2
 go_loopw [13] (fun i wr => ∃ k : Nat,k ≤ marks.length ∧ i = .int .i64 k ∧ Hid (∀ j,(hj : j < marks.length) → j < k → 0 ≤ marks[j] ∧ marks[j] < 11) ∧ wr = w.alloc (.cells #[.int .u8 3,.slice a marks.length cap] 61)) (fun i _ => marks.length - (intOf i).toNat)
 case atStart => exact ⟨0,Nat.zero_le _,rfl,Lib.hid (fun j _ h => by omega),rfl⟩
 case round =>
  obtain ⟨k,hk,rfl,hg,rfl⟩ := hrel
  by_cases hlt : k < marks.length
  ·obtain ⟨b, off, c0, rfl, hS, hbw, hc, hx⟩ := RSl.at1 (h.same (.of_below hb0)) k hlt
   obtain ⟨rfl,-⟩ := hx.open
   by_cases hin : 0 ≤ marks[k] ∧ marks[k] < 11
   ·go_wp2_with (go_at_call 159; refine (within_t _ _ _ _ hin.1 hin.2).mono ?_; rintro e w1 ⟨rfl, rfl⟩)
    refine ⟨⟨k + 1,by omega,by go_num,Lib.hid (fun j hj hjk => ?_),trivial⟩,by simp [intOf];omega⟩
    by_cases e : j = k
    ·subst e;exact hin
    ·exact hg.out j hj (by omega)
   ·go_wp2_with (go_at_call 159; refine (within_f _ _ _ _ hin).mono ?_; rintro e w1 ⟨rfl, rfl⟩)
    go_ret
    exact ⟨qaa (by rw [inB_false k hlt hin];rfl),hb0⟩
  ·have hin : inB 11 marks = true := List.all_eq_true.2 (fun m hm => by obtain ⟨j, hj, rfl⟩ := List.getElem_of_mem hm; exact decide_eq_true (hg.out j hj (by omega)))
   have Hin := Lib.hid hin;clear hin
   go_wp2
   go_ret
   exact ⟨qaa (by rw [Hin.out];rfl),hb0⟩

set_option maxHeartbeats 1000000 in
theorem fine_rank (S : Nat → Prop) (v : Value) (x : Blt) (c : Int) (w : World) (h : VBlt S w v x) (h3 : x.kind = 1) (hc10 : c ≤ 10) :
  Calls Tryz.prog 148 #[v,.int .i64 c] w (FineGives (inB c x.marks && onceB x.marks) w) := by
 obtain ⟨kind,marks⟩ := x
 obtain ⟨cc,d,rfl,hB⟩ := h
 obtain ⟨a,cap,rfl,rfl,hl,-,-,h⟩ := hB.open
 clear hB
 simp only at h3 h hl ⊢
 subst h3
 have hb0 : Below w.heap.size w (w.alloc (.cells #[.int .u8 1,.slice a marks.length cap] 61)) := (Below.refl _ _).alloc (Nat.le_refl _) _
 go_enter Tryz.func148,Tryz.ntmps148
 go_wp2
 go_loopw [13] (fun i wr => ∃ k : Nat,k ≤ marks.length ∧ i = .int .i64 k ∧ Hid (∀ j,(hj : j < marks.length) → j < k → 0 ≤ marks[j] ∧ marks[j] < c) ∧ wr = w.alloc (.cells #[.int .u8 1,.slice a marks.length cap] 61)) (fun i _ => marks.length - (intOf i).toNat)
 case atStart => exact ⟨0,Nat.zero_le _,rfl,Lib.hid (fun j _ h => by omega),rfl⟩
 case round =>
  obtain ⟨k,hk,rfl,hg,rfl⟩ := hrel
  by_cases hlt : k < marks.length
  ·obtain ⟨b, off, c0, rfl, hS, hbw, hc, hx⟩ := RSl.at1 (h.same (.of_below hb0)) k hlt
   obtain ⟨rfl,-⟩ := hx.open
   by_cases hin : 0 ≤ marks[k] ∧ marks[k] < c
   ·go_wp2_with (go_at_call 159; refine (within_t _ _ _ _ hin.1 hin.2).mono ?_; rintro e w1 ⟨rfl, rfl⟩)
    refine ⟨⟨k + 1,by omega,by go_num,Lib.hid (fun j hj hjk => ?_),trivial⟩,by simp [intOf];omega⟩
    by_cases e : j = k
    ·subst e;exact hin
    ·exact hg.out j hj (by omega)
   ·go_wp2_with (go_at_call 159; refine (within_f _ _ _ _ hin).mono ?_; rintro e w1 ⟨rfl, rfl⟩)
    go_ret
    exact ⟨qaa (by rw [inB_false k hlt hin];rfl),hb0⟩
  ·have hin : inB c marks = true := List.all_eq_true.2 (fun m hm => by obtain ⟨j, hj, rfl⟩ := List.getElem_of_mem hm; exact decide_eq_true (hg.out j hj (by omega)))
   have Hin := Lib.hid hin;clear hin
   go_wp2
   go_loopw [57] (fun i wr => ∃ k : Nat,k ≤ marks.length ∧ i = .int .i64 k ∧ Seen (w.heap.size + 1) wr (marks.take k) ∧ Hid (∀ k',(hk' : k' < marks.length) → k' < k → ∀ j,(hj : j < k') → marks[j] ≠ marks[k']) ∧ Below w.heap.size w wr ∧ w.heap.size + 1 < wr.heap.size) (fun i _ => marks.length - (intOf i).toNat)
   case atStart => exact ⟨0,Nat.zero_le _,rfl,Seen.start (by simpa using qa8 (w.alloc (.cells #[.int .u8 1,.slice a marks.length cap] 61)) (.cells #[.bool false,.bool false,.bool false,.bool false,.bool false,.bool false,.bool false,.bool false,.bool false,.bool false] 198)),Lib.hid (fun _ _ h => by omega),hb0.alloc (by simp) _,by simp⟩
   case round =>
    obtain ⟨k,hk,rfl,hs,hone,hb,hz⟩ := hrel
    by_cases hlt : k < marks.length
    ·obtain ⟨b, off, c0, rfl, hS, hbw, hc, hx⟩ := RSl.at1 (h.same (.of_below hb)) k hlt
     obtain ⟨rfl,-⟩ := hx.open
     obtain ⟨hm0,hm1⟩ := inB_get Hin.out k hlt
     obtain ⟨hs1,hs2⟩ := hs marks[k].toNat (by omega)
     rw [Int.toNat_of_nonneg hm0] at hs1
     have hm10 : marks[k] < 10 := by omega
     by_cases hmem : marks[k] ∈ marks.take k
     ·have hd : decide (marks[k] ∈ marks.take k) = true := decide_eq_true hmem
      rw [hd] at hs1;clear hd
      have Hm := Lib.hid hmem;clear hmem
      go_wp2
      go_ret
      have hf : onceB marks = false := by
       obtain ⟨i,hi,he⟩ := List.getElem_of_mem Hm.out
       simp only [List.length_take] at hi
       rw [List.getElem_take] at he
       exact onceB_false i k (by omega) hlt he
      exact ⟨qaa (by rw [hf,Bool.and_false]),hb⟩
     ·have hd : decide (marks[k] ∈ marks.take k) = false := decide_eq_false hmem
      rw [hd] at hs1;clear hd
      have Hm := Lib.hid hmem;clear hmem
      go_wp2
      refine ⟨⟨k + 1,by omega,by go_num,by rw [List.take_succ_eq_append_getElem hlt];exact hs.set hm0 hm10,Lib.hid (fun k' hk' hlt' j hj => ?_),hb.setCell (p := ⟨w.heap.size + 1,marks[k].toNat,none⟩) (by simp) _,by simpa using hz⟩,by simp [intOf];omega⟩
      by_cases e : k' = k
      ·subst e
       exact fun he => Hm.out (List.mem_take_iff_getElem.2 ⟨j,by omega,he⟩)
      ·exact hone.out k' hk' (by omega) j hj
    ·go_wp2
     go_ret
     have ht : onceB marks = true := onceB_of (fun k' hk' j hj => hone.out k' hk' (by omega) j hj)
     exact ⟨qaa (by rw [Hin.out,ht];rfl),hb⟩

set_option maxHeartbeats 1000000 in
theorem fine_mark (S : Nat → Prop) (v : Value) (x : Blt) (c : Int) (w : World) (h : VBlt S w v x) (h3 : x.kind = 2) (hc10 : c ≤ 10) :
  Calls Tryz.prog 148 #[v,.int .i64 c] w (FineGives (inB c x.marks && (upB x.marks && onceB x.marks)) w) := by
 obtain ⟨kind,marks⟩ := x
 obtain ⟨cc,d,rfl,hB⟩ := h
 obtain ⟨a,cap,rfl,rfl,hl,-,-,h⟩ := hB.open
 clear hB
 simp only at h3 h hl ⊢
 subst h3
 have hb0 : Below w.heap.size w (w.alloc (.cells #[.int .u8 2,.slice a marks.length cap] 61)) := (Below.refl _ _).alloc (Nat.le_refl _) _
 go_enter Tryz.func148,Tryz.ntmps148
 go_wp2
 go_loopw [13] (fun i wr => ∃ k : Nat,k ≤ marks.length ∧ i = .int .i64 k ∧ Hid (∀ j,(hj : j < marks.length) → j < k → 0 ≤ marks[j] ∧ marks[j] < c) ∧ wr = w.alloc (.cells #[.int .u8 2,.slice a marks.length cap] 61)) (fun i _ => marks.length - (intOf i).toNat)
 case atStart => exact ⟨0,Nat.zero_le _,rfl,Lib.hid (fun j _ h => by omega),rfl⟩
 case round =>
  obtain ⟨k,hk,rfl,hg,rfl⟩ := hrel
  by_cases hlt : k < marks.length
  ·obtain ⟨b, off, c0, rfl, hS, hbw, hc, hx⟩ := RSl.at1 (h.same (.of_below hb0)) k hlt
   obtain ⟨rfl,-⟩ := hx.open
   by_cases hin : 0 ≤ marks[k] ∧ marks[k] < c
   ·go_wp2_with (go_at_call 159; refine (within_t _ _ _ _ hin.1 hin.2).mono ?_; rintro e w1 ⟨rfl, rfl⟩)
    refine ⟨⟨k + 1,by omega,by go_num,Lib.hid (fun j hj hjk => ?_),trivial⟩,by simp [intOf];omega⟩
    by_cases e : j = k
    ·subst e;exact hin
    ·exact hg.out j hj (by omega)
   ·go_wp2_with (go_at_call 159; refine (within_f _ _ _ _ hin).mono ?_; rintro e w1 ⟨rfl, rfl⟩)
    go_ret
    exact ⟨qaa (by rw [inB_false k hlt hin];rfl),hb0⟩
  ·have hin : inB c marks = true := List.all_eq_true.2 (fun m hm => by obtain ⟨j, hj, rfl⟩ := List.getElem_of_mem hm; exact decide_eq_true (hg.out j hj (by omega)))
   have Hin := Lib.hid hin;clear hin
   have hgA : (w.alloc (.cells #[.int .u8 2,.slice a marks.length cap] 61)).heap[w.heap.size]? = some (.cells #[.int .u8 2,.slice a marks.length cap] 61 (0,0)) := qa8 _ _
   have hI := isSorted S (.slice a marks.length cap) marks (w.alloc (.cells #[.int .u8 2,.slice a marks.length cap] 61)) (h.same (.of_below hb0))
   by_cases hup : upB marks = false
   ·rw [hup] at hI
    have HI := Lib.hid hI;clear hI
    have Hup := Lib.hid hup;clear hup
    go_wp2_with (go_at_call 193;refine HI.out.mono ?_;rintro e w1 ⟨rfl,hb1⟩)
    go_ret
    exact ⟨qaa (by rw [Hup.out];simp),hb0.trans (hb1.mono (by simp))⟩
   rw [Bool.not_eq_false] at hup
   rw [hup] at hI
   have HI := Lib.hid hI;clear hI
   have Hup := Lib.hid hup;clear hup
   go_wp2_with (go_at_call 193;refine HI.out.mono ?_;rintro e w1 ⟨rfl,hb1⟩;obtain ⟨g1,hc1,hf1⟩ := qa6 hb1 (by simp) hgA;have hz1 : w.heap.size < w1.heap.size := by have := hb1.size;simp at this;omega)
   have hb2 := hb0.trans (hb1.mono (by simp))
   go_loopw [57] (fun i wr => ∃ k : Nat,k ≤ marks.length ∧ i = .int .i64 k ∧ Seen (w1.heap.size) wr (marks.take k) ∧ Hid (∀ k',(hk' : k' < marks.length) → k' < k → ∀ j,(hj : j < k') → marks[j] ≠ marks[k']) ∧ Below w.heap.size w wr ∧ w1.heap.size < wr.heap.size) (fun i _ => marks.length - (intOf i).toNat)
   case atStart => exact ⟨0,Nat.zero_le _,rfl,Seen.start (qa8 w1 (.cells #[.bool false,.bool false,.bool false,.bool false,.bool false,.bool false,.bool false,.bool false,.bool false,.bool false] 198)),Lib.hid (fun _ _ h => by omega),hb2.alloc (by omega) _,by simp⟩
   case round =>
    obtain ⟨k,hk,rfl,hs,hone,hb,hz⟩ := hrel
    by_cases hlt : k < marks.length
    ·obtain ⟨b, off, c0, rfl, hS, hbw, hc, hx⟩ := RSl.at1 (h.same (.of_below hb)) k hlt
     obtain ⟨rfl,-⟩ := hx.open
     obtain ⟨hm0,hm1⟩ := inB_get Hin.out k hlt
     obtain ⟨hs1,hs2⟩ := hs marks[k].toNat (by omega)
     rw [Int.toNat_of_nonneg hm0] at hs1
     have hm10 : marks[k] < 10 := by omega
     by_cases hmem : marks[k] ∈ marks.take k
     ·have hd : decide (marks[k] ∈ marks.take k) = true := decide_eq_true hmem
      rw [hd] at hs1;clear hd
      have Hm := Lib.hid hmem;clear hmem
      go_wp2
      go_ret
      have hf : onceB marks = false := by
       obtain ⟨i,hi,he⟩ := List.getElem_of_mem Hm.out
       simp only [List.length_take] at hi
       rw [List.getElem_take] at he
       exact onceB_false i k (by omega) hlt he
      exact ⟨qaa (by rw [hf,Bool.and_false,Bool.and_false]),hb⟩
     ·have hd : decide (marks[k] ∈ marks.take k) = false := decide_eq_false hmem
      rw [hd] at hs1;clear hd
      have Hm := Lib.hid hmem;clear hmem
      go_wp2
      refine ⟨⟨k + 1,by omega,by go_num,by rw [List.take_succ_eq_append_getElem hlt];exact hs.set hm0 hm10,Lib.hid (fun k' hk' hlt' j hj => ?_),hb.setCell (p := ⟨w1.heap.size,marks[k].toNat,none⟩) (by simp;omega) _,by simpa using hz⟩,by simp [intOf];omega⟩
      by_cases e : k' = k
      ·subst e
       exact fun he => Hm.out (List.mem_take_iff_getElem.2 ⟨j,by omega,he⟩)
      ·exact hone.out k' hk' (by omega) j hj
    ·go_wp2
     go_ret
     have ht : onceB marks = true := onceB_of (fun k' hk' j hj => hone.out k' hk' (by omega) j hj)
     exact ⟨qaa (by rw [Hin.out,Hup.out,ht];rfl),hb⟩

end

section
open Go Go.RowKit

set_option maxHeartbeats 1000000 in
theorem fine_else (S : Nat → Prop) (v : Value) (x : Blt) (c : Int) (w : World) (h : VBlt S w v x) (h1 : x.kind ≠ 1) (h2 : x.kind ≠ 2) (h3 : x.kind ≠ 3) :
  Calls Tryz.prog 148 #[v,.int .i64 c] w (FineGives false w) := by
 obtain ⟨kind,marks⟩ := x
 obtain ⟨cc,d,rfl,hB⟩ := h
 obtain ⟨a,cap,rfl,rfl,hl,-,-,h⟩ := hB.open
 clear hB
 simp only at h1 h2 h3 h hl ⊢
 have e1 : (kind == 1) = false := by simpa using h1
 have e2 : (kind == 2) = false := by simpa using h2
 have e3 : (kind == 3) = false := by simpa using h3
 have e4 : (kind != 3) = true := by simpa using h3
 clear h1 h2 h3
 have hb0 : Below w.heap.size w (w.alloc (.cells #[.int .u8 kind,.slice a marks.length cap] 61)) := (Below.refl _ _).alloc (Nat.le_refl _) _
 go_enter Tryz.func148,Tryz.ntmps148
 go_wp2
 go_loopw [13] (fun i wr => ∃ k : Nat,k ≤ marks.length ∧ i = .int .i64 k ∧ wr = w.alloc (.cells #[.int .u8 kind,.slice a marks.length cap] 61)) (fun i _ => marks.length - (intOf i).toNat)
 case atStart => exact ⟨0,Nat.zero_le _,rfl,rfl⟩
 case round =>
  obtain ⟨k,hk,rfl,rfl⟩ := hrel
  by_cases hlt : k < marks.length
  ·obtain ⟨b, off, c0, rfl, hS, hbw, hc, hx⟩ := RSl.at1 (h.same (.of_below hb0)) k hlt
   obtain ⟨rfl,-⟩ := hx.open
   by_cases hin : 0 ≤ marks[k] ∧ marks[k] < c
   ·go_wp2_with (go_at_call 159; refine (within_t _ _ _ _ hin.1 hin.2).mono ?_; rintro e w1 ⟨rfl, rfl⟩)
    exact ⟨⟨k + 1,by omega,by go_num,trivial⟩,by simp [intOf];omega⟩
   ·go_wp2_with (go_at_call 159; refine (within_f _ _ _ _ hin).mono ?_; rintro e w1 ⟨rfl, rfl⟩)
    go_ret
    exact ⟨rfl,hb0⟩
  ·go_wp2
   go_ret
   exact ⟨rfl,hb0⟩

theorem fine_any (S : Nat → Prop) (v : Value) (x : Blt) (c : Int) (w : World) (h : VBlt S w v x) (hc : c ≤ 10) :
  Calls Tryz.prog 148 #[v,.int .i64 c] w (FineGives (fineB x c) w) := by
 unfold fineB
 by_cases h3 : x.kind = 3
 ·rw [if_pos h3];exact fine_score S v x c w h h3
 by_cases h2 : x.kind = 2
 ·rw [if_neg h3,if_pos h2];exact fine_mark S v x c w h h2 hc
 by_cases h1 : x.kind = 1
 ·rw [if_neg h3,if_neg h2,if_pos h1];exact fine_rank S v x c w h h1 hc
 ·rw [if_neg h3,if_neg h2,if_neg h1];exact fine_else S v x c w h h1 h2 h3

def checkB (x : Blt) (c : Int) : Int := if 1 ≤ c ∧ c < 11 then (if fineB x c then 0 else 8) else 2

set_option maxHeartbeats 400000 in
theorem ballotCheck (S : Nat → Prop) (v : Value) (x : Blt) (c : Int) (w : World) (h : VBlt S w v x) :
  Calls Tryz.prog 91 #[v,.int .i64 c] w fun e w' => e = .returned (.int .i64 (checkB x c)) ∧ Below w.heap.size w w' := by
 have h0 := h
 obtain ⟨cc,d,rfl,hB⟩ := h
 obtain ⟨a,cap,rfl,rfl,hl,-,-,-⟩ := hB.open
 have hb0 : Below w.heap.size w (w.alloc (.cells #[.int .u8 x.kind,.slice a x.marks.length cap] 61)) := (Below.refl _ _).alloc (Nat.le_refl _) _
 by_cases hin : 1 ≤ c ∧ c < 11
 ·have hF := fine_any S _ x c _ (h0.same (.of_below hb0)) (by omega)
  have hr : checkB x c = if fineB x c then 0 else 8 := by simp [checkB,hin]
  cases hf : fineB x c
  ·rw [hf] at hF hr
   simp only [Bool.false_eq_true,if_false] at hr
   have HF := Lib.hid hF;have Hr := Lib.hid hr;clear hF hr hf
   go_enter Tryz.func91,Tryz.ntmps91
   go_wp2_with (first | (go_at_call 159;refine (within_t _ _ _ _ hin.1 hin.2).mono ?_;rintro e w1 ⟨rfl,rfl⟩) | (go_at_call 148;refine HF.out.mono ?_;rintro e w1 ⟨rfl,hb1⟩))
   go_ret
   exact ⟨qac Hr.out.symm,hb0.trans (hb1.mono (by simp))⟩
  ·rw [hf] at hF hr
   simp only [if_true] at hr
   have HF := Lib.hid hF;have Hr := Lib.hid hr;clear hF hr hf
   go_enter Tryz.func91,Tryz.ntmps91
   go_wp2_with (first | (go_at_call 159;refine (within_t _ _ _ _ hin.1 hin.2).mono ?_;rintro e w1 ⟨rfl,rfl⟩) | (go_at_call 148;refine HF.out.mono ?_;rintro e w1 ⟨rfl,hb1⟩))
   go_ret
   exact ⟨qac Hr.out.symm,hb0.trans (hb1.mono (by simp))⟩
 ·go_enter Tryz.func91, Tryz.ntmps91
  go_wp2_with (go_at_call 159;refine (within_f _ _ _ _ hin).mono ?_;rintro e w1 ⟨rfl,rfl⟩)
  go_ret
  exact ⟨qac (by simp only [checkB,if_neg hin]),hb0⟩
end

section
open Go Go.RowKit

def goodByte (b : UInt8) : Bool := decide (33 ≤ b.toNat) && decide (b.toNat ≤ 126)
def nameB (s : ByteArray) : Bool := decide (1 ≤ s.size) && (decide (s.size ≤ 40) && (List.range s.size).all fun i => goodByte (s.get! i))
end

section
open Go Go.RowKit Go.Shelf

def fitsB (x : Blt) (c kind : Int) : Bool := decide (x.kind = kind) && decide (checkB x c = 0)

def idxB {α : Type} (p : α → Bool) : List α → Int
 | [] => -1
 | x :: l => if p x then 0 else (if idxB p l < 0 then -1 else idxB p l + 1)

theorem idxB_ge {α : Type} (p : α → Bool) : ∀ l : List α,-1 ≤ idxB p l
 | [] => by simp [idxB]
 | x :: l => by have := idxB_ge p l;simp only [idxB];repeat' split <;> omega
theorem idxB_at {α : Type} {p : α → Bool} : ∀ {l : List α} {k : Nat} (hk : k < l.length),(l.take k).any p = false → p l[k] = true → idxB p l = k
 | [],_,hk,_,_ => by simp at hk
 | x :: l,0,_,_,hp => by simp only [List.getElem_cons_zero] at hp;simp [idxB,hp]
 | x :: l,k + 1,hk,h,hp => by
  simp only [List.take_succ_cons,List.any_cons,Bool.or_eq_false_iff] at h
  have := idxB_at (l := l) (k := k) (by simpa using hk) h.2 (by simpa using hp)
  simp only [idxB,h.1,this,Bool.false_eq_true,if_false]
  rw [if_neg (by omega)]
  omega
theorem idxB_none {α : Type} {p : α → Bool} : ∀ {l : List α},l.any p = false → idxB p l = -1
 | [],_ => rfl
 | x :: l,h => by
  simp only [List.any_cons,Bool.or_eq_false_iff] at h
  simp [idxB,h.1,idxB_none h.2]
theorem idxB_iff {α : Type} (p : α → Bool) : ∀ l : List α,0 ≤ idxB p l ↔ l.any p = true
 | [] => by simp [idxB]
 | x :: l => by
  have h1 := idxB_iff p l
  have h2 := idxB_ge p l
  unfold idxB
  by_cases hp : p x = true
  ·simp [hp]
  ·rw [if_neg hp, List.any_cons]
   rw [Bool.not_eq_true] at hp
   rw [hp,Bool.false_or,← h1]
   split <;> omega
theorem idxB_any {α : Type} (p : α → Bool) (l : List α) : decide (0 ≤ idxB p l) = l.any p := by
 rw [Bool.eq_iff_iff,decide_eq_true_iff];exact idxB_iff p l

end

section
open Go Go.RowKit Go.Shelf

def mayB (x : Btc) (c kind : Int) : Bool := nameB x.name && !x.blts.any fun b => !fitsB b c kind

def sameName (a b : ByteArray) : Bool := a.toList == b.toList

def okAt (l : List Btc) (c kind : Int) (i : Nat) : Bool :=
 match l[i]? with
 | some b => mayB b c kind && !(l.take i).any fun y => sameName y.name b.name
 | none => true
def recCheck (l : List Btc) (c kind : Int) : Int :=
 if 1 ≤ c ∧ c ≤ 10 ∧ 1 ≤ kind ∧ kind ≤ 3 then
  if 16 < l.length ∨ l.any (fun b => decide (64 < b.blts.length)) = true then 4
  else if (List.range l.length).all (okAt l c kind) then 0 else 8
 else 2

end

section
open Go Go.RowKit

def greatBlt (b : Blt) : Bool := decide (60 < b.marks.length)
def greatBtc (b : Btc) : Bool := decide (70 < b.blts.length) || decide (1000 < b.name.size) || b.blts.any greatBlt
def great (l : List Btc) : Bool := decide (20 < l.length) || l.any greatBtc

end
end Go.Proofs.YthcbkhfmdginiaaGreat
