/- Texts of one claim,put together: Same. -/
import Derived.Test.YthcbkhfmdginiaaGreatRGPut

namespace Go.Proofs.YthcbkhfmdginiaaGreat
open Go Go.RowKit Go.Shelf

def eqL {α : Type} (p : α → α → Bool) : List α → List α → Bool
 | [],[] => true
 | x :: xs,y :: ys => p x y && eqL p xs ys
 | [],_ :: _ => false
 | _ :: _,[] => false
theorem eqL_len {α : Type} {p : α → α → Bool} : ∀ {xs ys : List α},eqL p xs ys = true → xs.length = ys.length
 | [],[],_ => rfl
 | x :: xs,y :: ys,h => by simp only [eqL,Bool.and_eq_true] at h;simp [eqL_len h.2]
 | [],_ :: _,h => by simp [eqL] at h
 | _ :: _,[],h => by simp [eqL] at h
theorem eqL_get {α : Type} {p : α → α → Bool} : ∀ {xs ys : List α},eqL p xs ys = true → ∀ k (h1 : k < xs.length) (h2 : k < ys.length),p xs[k] ys[k] = true
 | x :: xs,y :: ys,h,0,_,_ => by simp only [eqL,Bool.and_eq_true] at h;simpa using h.1
 | x :: xs,y :: ys,h,k + 1,h1,h2 => by simp only [eqL,Bool.and_eq_true] at h;simpa using eqL_get h.2 k (by simpa using h1) (by simpa using h2)
 | [],[],_,_,h1,_ => by simp at h1
 | [],_ :: _,_,_,h1,_ => by simp at h1
 | _ :: _,[],_,_,_,h2 => by simp at h2
theorem eqL_of {α : Type} {p : α → α → Bool} : ∀ {xs ys : List α},xs.length = ys.length → (∀ k (h1 : k < xs.length) (h2 : k < ys.length),p xs[k] ys[k] = true) → eqL p xs ys = true
 | [],[],_,_ => rfl
 | x :: xs,y :: ys,hl,h => by
  simp only [eqL,Bool.and_eq_true]
  exact ⟨h 0 (by simp) (by simp),eqL_of (by simpa using hl) (fun k h1 h2 => h (k + 1) (by simpa using h1) (by simpa using h2))⟩
 | [],_ :: _,hl,_ => by simp at hl
 | _ :: _,[],hl,_ => by simp at hl
theorem eqL_ne_len {α : Type} {p : α → α → Bool} {xs ys : List α} (h : xs.length ≠ ys.length) : eqL p xs ys = false := by
 cases hb : eqL p xs ys
 ·rfl
 ·exact absurd (eqL_len hb) h
theorem eqL_ne_at {α : Type} {p : α → α → Bool} {xs ys : List α} (k : Nat) (h1 : k < xs.length) (h2 : k < ys.length) (h : p xs[k] ys[k] = false) : eqL p xs ys = false := by
 cases hb : eqL p xs ys
 ·rfl
 ·rw [eqL_get hb k h1 h2] at h;cases h
theorem eqL_refl {α : Type} {p : α → α → Bool} (hp : ∀ x,p x x = true) (xs : List α) : eqL p xs xs = true := eqL_of rfl (fun _ _ _ => hp _)
def eqInt (x y : Int) : Bool := decide (x = y)
theorem eqL_int {xs ys : List Int} : eqL eqInt xs ys = true ↔ xs = ys := by
 constructor
 ·intro h
  exact List.ext_getElem (eqL_len h) (fun k h1 h2 => by simpa [eqInt] using eqL_get h k h1 h2)
 ·rintro rfl;exact eqL_refl (fun x => by simp [eqInt]) _
set_option maxHeartbeats 1000000 in
theorem ints08 (S T : Nat → Prop) (u v : Value) (xs ys : List Int) (w : World) (hx : RInts S w u xs) (hy : RInts T w v ys) :
  Calls Tryz.prog 24 #[u,v] w fun e w' => e = .returned (.bool (eqL eqInt xs ys)) ∧ Below w.heap.size w w' := by
 obtain ⟨a1,cap1,rfl,hx1,hx2⟩ := RSl.shape hx
 obtain ⟨a2,cap2,rfl,hy1,hy2⟩ := RSl.shape hy
 by_cases hl : xs.length = ys.length
 case neg =>
  have hl' : ((xs.length : Int) != (ys.length : Int)) = true := by simpa using (by omega : ¬ (xs.length : Int) = ys.length)
  have hr := eqL_ne_len (p := eqInt) hl
  have Hr := Lib.hid hr;clear hr hl
  go_enter Tryz.func24,Tryz.ntmps24
  go_wp2
  go_ret
  exact ⟨qaa Hr.out.symm,Below.refl _ _⟩
 have hl' : ((xs.length : Int) != (ys.length : Int)) = false := by simpa using (by omega : (xs.length : Int) = ys.length)
 have Hl := Lib.hid hl;clear hl
 go_enter Tryz.func24,Tryz.ntmps24
 go_wp2
 go_loopw [5] (fun i wr => ∃ k : Nat,k ≤ xs.length ∧ i = .int .i64 k ∧ Hid (∀ j (h1 : j < xs.length) (h2 : j < ys.length),j < k → eqInt xs[j] ys[j] = true) ∧ Below w.heap.size w wr) (fun i _ => xs.length - (intOf i).toNat)
 case atStart => exact ⟨0,Nat.zero_le _,rfl,Lib.hid (fun _ _ _ h => by omega),Below.refl _ _⟩
 case round =>
  obtain ⟨k,hk,rfl,hg,hb⟩ := hrel
  by_cases hlt : k < xs.length
  ·have hlt2 : k < ys.length := by have := Hl.out; omega
   obtain ⟨b,off,c,rfl,hS,hbw,hc,hdx⟩ := RSl.at1 hx k hlt
   obtain ⟨b2,off2,c2,rfl,hS2,hbw2,hc2,hdy⟩ := RSl.at1 hy k hlt2
   obtain ⟨rfl,-⟩ := hdx.open
   obtain ⟨rfl,-⟩ := hdy.open
   have e1 := fun p => qa7 (w := wr) ((Same.of_below (S := Any) hb).cell trivial hc) p
   have e2 := fun p => qa7 (w := wr) ((Same.of_below (S := Any) hb).cell trivial hc2) p
   clear hc hc2
   by_cases he : xs[k] = ys[k]
   ·have he' : (xs[k] != ys[k]) = false := by simpa using he
    have He := Lib.hid he;clear he
    go_wp2
    refine qa3 (by kernel_rfl) (by kernel_rfl) ?_
    repeat (go_big_quiet_step (fail))
    refine wpQuiet_nil ?_
    intro _ hw';obtain ⟨p,rfl⟩ := hw'
    go_wp2
    refine ⟨⟨k + 1,by omega,by go_num,Lib.hid (fun j h1 h2 hj => ?_),hb.trans ((qa4 wr p).mono hb.size)⟩,by simp [intOf];omega⟩
    by_cases e : j = k
    ·subst e;simp [eqInt,He.out]
    ·exact hg.out j h1 h2 (by omega)
   ·have he' : (xs[k] != ys[k]) = true := by simpa using he
    have hr := eqL_ne_at (p := eqInt) k hlt hlt2 (by simpa [eqInt] using he)
    have Hr := Lib.hid hr;clear he hr
    go_wp2
    refine qa3 (by kernel_rfl) (by kernel_rfl) ?_
    repeat (go_big_quiet_step (fail))
    refine wpQuiet_nil ?_
    intro _ hw';obtain ⟨p,rfl⟩ := hw'
    go_wp2
    go_ret
    exact ⟨qaa Hr.out.symm,hb.trans ((qa4 wr p).mono hb.size)⟩
  ·go_wp2
   go_ret
   exact ⟨qaa (eqL_of Hl.out (fun j h1 h2 => hg.out j h1 h2 (by omega))).symm,hb⟩

end Go.Proofs.YthcbkhfmdginiaaGreat
