/- What Put answers. -/
import Derived.Test.YtkjgddcjhikdgaaChk
import Derived.Test.YtkjgddcjhikdgaaGreat
import Derived.Test.YtkjgddcjhikdgaaTwinP
namespace Go.Proofs.Ytkjgddcjhikdgaa
open Go Go.RowKit

def atI (l : List Btc) (nm : ByteArray) : Int := idxB (fun b => sameName b.name nm) l
def grow1 (b : Blt) (x : Btc) : Btc := ⟨x.name, x.blts ++ [b]⟩
def put1 (l : List Btc) (nm : ByteArray) (b : Blt) : List Btc := if atI l nm < 0 then l ++ [⟨nm, [b]⟩] else l.modify (atI l nm).toNat (grow1 b)
def fullB (l : List Btc) (nm : ByteArray) : Bool := if atI l nm < 0 then decide (l.length = 16) else ((l[(atI l nm).toNat]?).map fun x => decide (x.blts.length = 64)).getD false
def putI (l : List Btc) (c kind : Int) (nm : ByteArray) (b : Blt) : Int :=
  if recCheck l c kind = 0 then (if nameB nm && fitsB b c kind then (if fullB l nm then 9 else 0) else 2) else recCheck l c kind
def putL (l : List Btc) (c kind : Int) (nm : ByteArray) (b : Blt) : List Btc := if putI l c kind nm b = 0 then put1 l nm b else []
theorem idxB_lt {α : Type} (p : α → Bool) : ∀ l : List α, idxB p l < l.length
  | [] => by simp [idxB]
  | x :: l => by have := idxB_lt p l; simp only [idxB, List.length_cons]; repeat' split <;> omega
/-- What a call of Put gives. -/
def PutGives (l : List Btc) (c kind : Int) (nm : ByteArray) (b : Blt) (w : World) (e : Ending) (w' : World) : Prop :=
  ∃ v, e = .returned (.tuple #[v, .int .i64 (putI l c kind nm b)]) ∧ WBtcs (From w.heap.size) w' v (putL l c kind nm b) ∧ Below w.heap.size w w'
theorem putL_nil {l : List Btc} {c kind : Int} {nm : ByteArray} {b : Blt} (h : putI l c kind nm b ≠ 0) : putL l c kind nm b = [] := by rw [putL, if_neg h]
theorem PutGives.none {l : List Btc} {c kind : Int} {nm : ByteArray} {b : Blt} {w w' : World} {i : Int} (hi : putI l c kind nm b = i) (h0 : i ≠ 0) (hb : Below w.heap.size w w') :
    PutGives l c kind nm b w (.returned (.tuple #[.slice none 0 0, .int .i64 i])) w' := ⟨_, by rw [hi], by rw [putL_nil (by rw [hi]; exact h0)]; exact WSl.nil, hb⟩
theorem PutGives.some {l : List Btc} {c kind : Int} {nm : ByteArray} {b : Blt} {w w' : World} {v : Value} {L : List Btc} {base : Nat} (hi : putI l c kind nm b = 0) (hl : putL l c kind nm b = L) (hv : WBtcs (From base) w' v L) (hbase : w.heap.size ≤ base) (hb : Below w.heap.size w w') :
    PutGives l c kind nm b w (.returned (.tuple #[v, .int .i64 0])) w' :=
  ⟨v, by rw [hi], by rw [hl]; exact WSl.mono (fun _ _ _ hh => hh.mono (T := From w.heap.size) fun c hc => by simp only [From] at hc ⊢; omega) (fun c hc => by simp only [From] at hc ⊢; omega) hv, hb⟩
theorem modify_last {α : Type} (f : α → α) (x : α) : ∀ l : List α, (l ++ [x]).modify l.length f = l ++ [f x]
  | [] => rfl
  | y :: l => by simp [modify_last f x l]
theorem small_of {l : List Btc} (hg : great l = false) : Small l := by
  simp only [great, Bool.or_eq_false_iff, decide_eq_false_iff_not] at hg
  refine ⟨by omega, fun b hb => ?_⟩
  have := List.any_eq_false.1 hg.2 b hb
  simp only [greatBtc, Bool.or_eq_true, decide_eq_true_eq, not_or] at this
  refine ⟨by omega, fun x hx => ?_⟩
  have h2 := this.2
  simp only [Bool.not_eq_true] at h2
  have := List.any_eq_false.1 h2 x hx
  simp [greatBlt] at this
  omega
end Go.Proofs.Ytkjgddcjhikdgaa
