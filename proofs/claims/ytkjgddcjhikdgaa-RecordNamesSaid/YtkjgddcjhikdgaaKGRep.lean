/- Texts of one claim, put together: Repl, Rep, Rep2, LawCompares. -/
import Derived.Test.YtkjgddcjhikdgaaKGCan
import Derived.Test.YtkjgddcjhikdgaaKGTell
import Derived.StillTailTactics
import Derived.Deep.CutBlock

/- Replacing batches by those of another count: the list, and the row of the call's own in which it is done. -/
namespace Go.Proofs.Ytkjgddcjhikdgaa
open Go Go.RowKit Go.Shelf

def replL (a b : List Btc) (is : List Int) : List Btc := is.foldl (fun acc i => acc.set i.toNat (b.getD i.toNat zC)) a
theorem replL_snoc (a b : List Btc) (is : List Int) (i : Int) : replL a b (is ++ [i]) = (replL a b is).set i.toNat (b.getD i.toNat zC) := by simp [replL]
theorem replL_len (a b : List Btc) (is : List Int) : (replL a b is).length = a.length := by
  unfold replL
  induction is generalizing a with
  | nil => rfl
  | cons i is ih => rw [List.foldl_cons, ih]; simp
/-- The indices are in range, and none occurs twice. -/
def okB (n : Nat) (is : List Int) : Bool := is.all (fun i => decide (0 ≤ i ∧ i < n)) && decide is.Nodup
/-- From lo on, below hi, but for the row's own block. -/
def RepT (lo hi : Nat) (v : Value) : Nat → Prop := fun b => lo ≤ b ∧ b < hi ∧ some b ≠ v.ownBlock
def RepOut (lo mid hi : Nat) (w3 wr : World) (v : Value) (a b : List Btc) (is : List Int) : Prop :=
  Own lo 64 2 (wBtc (RepT lo hi v)) wr v (replL a b is) ∧ Same (Span mid hi) w3 wr ∧ (∀ g, v.ownBlock = some g → g < mid) ∧ lo ≤ mid ∧ mid ≤ hi ∧ hi ≤ wr.heap.size
theorem RepOut.start {lo : Nat} {w2 w3 : World} {v : Value} {ys : List Sp} {a b : List Btc} (h : Twinned lo w2 v ys) (hy : ys.map (·.x) = a) (hlo : lo ≤ w2.heap.size) (hb : Below w2.heap.size w2 w3) :
    RepOut lo w2.heap.size w3.heap.size w3 w3 v a b [] := by
  have h1 := h.below hb
  have h2 := Own.map (dec' := wBtc (RepT lo w3.heap.size v)) (·.x) h1.1 (fun x _ cs hd => (dSep.toW hd).mono fun b hb => ⟨hb.1, hb.2.1, hb.2.2⟩)
  rw [hy] at h2
  exact ⟨h2, Same.refl _ _, fun g hg => (Own.lt h.1 g hg).2, hlo, hb.size, Nat.le_refl _⟩
theorem RepOut.at {lo mid hi : Nat} {w3 wr : World} {a1 : Option Addr} {n c : Nat} {a b : List Btc} {is : List Int} (h : RepOut lo mid hi w3 wr (.slice a1 n c) a b is) {k : Nat} (hk : k < a.length) :
    ∃ g x y, a1 = some ⟨g, 0, none⟩ ∧ lo ≤ g ∧ g < mid ∧ g < wr.heap.size ∧ wr.cell? ⟨g, k * 2, none⟩ = some x ∧ wr.cell? ⟨g, k * 2 + 1, none⟩ = some y ∧ ∀ o, wr.frozen? ⟨g, o, none⟩ = false := by
  obtain ⟨g, x, y, rfl, h1, h2, h3, h4, h5, -⟩ := Own.at2 h.1 (by rw [replL_len]; exact hk)
  exact ⟨g, x, y, rfl, h1, h.2.2.1 g rfl, h2, h3, h4, h5⟩
theorem RepOut.step {lo mid hi : Nat} {w3 wr w' : World} {g n c : Nat} {a b : List Btc} {is : List Int} (h : RepOut lo mid hi w3 wr (.slice (some ⟨g, 0, none⟩) n c) a b is) {i : Int} {k : Nat} (hi' : i = k) (hk : k < a.length) (hkb : k < b.length) {x y : Value}
    (hx : wBtc (Span mid hi) wr [x, y] b[k]) (hw : ∀ j, j < hi → w'.heap[j]? = ((wr.setCell ⟨g, k * 2, none⟩ x).setCell ⟨g, k * 2 + 1, none⟩ y).heap[j]?) (hz : wr.heap.size ≤ w'.heap.size) :
    RepOut lo mid hi w3 w' (.slice (some ⟨g, 0, none⟩) n c) a b (is ++ [i]) := by
  obtain ⟨h1, h2, h3, h4, hmh, h5⟩ := h
  subst hi'
  have hg := h3 g rfl
  have hoff : ∀ j, j < hi → j ≠ g → w'.heap[j]? = wr.heap[j]? := fun j hj hne => (hw j hj).trans (setCell2_off hne x y)
  refine ⟨?_, fun j hj hS => (hoff j hS.2 (by have := hS.1; omega)).trans (h2 j hj hS), h3, h4, hmh, Nat.le_trans h5 hz⟩
  have hset : replL a b (is ++ [(k : Int)]) = (replL a b is).set k b[k] := by rw [replL_snoc, Int.toNat_natCast, getD_at zC hkb]
  rw [hset]
  refine Own.put2 h1 (by rw [replL_len]; exact hk) (c := x) (u := y) (fun cur hcur _ => ?_) ?_ (fun j hj hjk cs hcs => ?_)
  · obtain ⟨cur', e1, e2⟩ := heap_setCell2 (k := k) hcur x y
    exact ⟨cur', (hw g (by omega)).trans e1, e2⟩
  · refine (wBtc.stable (Span mid hi) _ _ _ _ (fun j _ hS => hoff j hS.2 (by have := hS.1; omega)) hx).mono fun j hS => ⟨by have := hS.1; omega, hS.2, fun he => ?_⟩
    simp only [Value.ownBlock, Option.some.injEq] at he
    have := hS.1
    omega
  · exact wBtc.stable (RepT lo hi (.slice (some ⟨g, 0, none⟩) n c)) _ _ _ _ (fun j _ hS => hoff j hS.2.1 (fun he => hS.2.2 (by rw [he]; rfl))) hcs
theorem RepOut.done {lo mid hi : Nat} {w3 wr : World} {v : Value} {a b : List Btc} {is : List Int} (h : RepOut lo mid hi w3 wr v a b is) (hl : a.length ≤ 1000000) : WBtcs (From lo) wr v (replL a b is) :=
  WSl.mono (fun _ _ _ hd => hd.mono fun _ hb => hb.1) (fun _ hb => hb) (Own.wsl h.1 (by rw [replL_len]; omega))
end Go.Proofs.Ytkjgddcjhikdgaa

/- The contracts of canvass.Replace and of the reference's Replace. -/
namespace Go.Proofs.Ytkjgddcjhikdgaa
open Go Go.RowKit Go.Shelf Go.Maps

def repI (a b : List Btc) (c kind : Int) (is : List Int) : Int := if fitI a b c kind = 0 then (if okB a.length is then 0 else 2) else fitI a b c kind
def repV (a b : List Btc) (c kind : Int) (is : List Int) : List Btc := if repI a b c kind is = 0 then replL a b is else []
def RepGives (a b : List Btc) (c kind : Int) (is : List Int) (w : World) (e : Ending) (w' : World) : Prop :=
  ∃ v, e = .returned (.tuple #[v, .int .i64 (repI a b c kind is)]) ∧ WBtcs (From w.heap.size) w' v (repV a b c kind is) ∧ Below w.heap.size w w'
theorem RepGives.none {a b : List Btc} {c kind : Int} {is : List Int} {w w' : World} {i : Int} (hi : repI a b c kind is = i) (h0 : i ≠ 0) (hb : Below w.heap.size w w') :
    RepGives a b c kind is w (.returned (.tuple #[.slice none 0 0, .int .i64 i])) w' := ⟨_, by rw [hi], by rw [repV, if_neg (by rw [hi]; exact h0)]; exact WSl.nil, hb⟩
theorem RepGives.some {a b : List Btc} {c kind : Int} {is : List Int} {w w' : World} {v : Value} {lo : Nat} (hf : fitI a b c kind = 0) (ho : okB a.length is = true) (hv : WBtcs (From lo) w' v (replL a b is)) (hlo : w.heap.size ≤ lo) (hb : Below w.heap.size w w') :
    RepGives a b c kind is w (.returned (.tuple #[v, .int .i64 0])) w' := by
  have hi : repI a b c kind is = 0 := by rw [repI, if_pos hf, if_pos ho]
  exact ⟨v, by rw [hi], by rw [repV, if_pos hi]; exact WSl.mono (fun _ _ _ hh => hh.mono fun _ hc => Nat.le_trans hlo hc) (fun _ hc => Nat.le_trans hlo hc) hv, hb⟩
theorem RepOut.below {lo mid hi : Nat} {w3 wr w' : World} {v : Value} {a b : List Btc} {is : List Int} (h : RepOut lo mid hi w3 wr v a b is) (hb : Below wr.heap.size wr w') : RepOut lo mid hi w3 w' v a b is := by
  obtain ⟨h1, h2, h3, h4, h5, h6⟩ := h
  exact ⟨Own.below (wBtc.stable _) h1 hb, fun j hj hS => (hb.block j (Nat.lt_of_lt_of_le hS.2 h6)).trans (h2 j hj hS), h3, h4, h5, Nat.le_trans h6 hb.size⟩
end Go.Proofs.Ytkjgddcjhikdgaa

/- What the law CanvassCompares answers. -/
namespace Go.Proofs.Ytkjgddcjhikdgaa
open Go Go.RowKit Go.Shelf

def CmpOpen (PL : List Place) (I : Int) (w : World) (e : Ending) (w' : World) : Prop :=
  ∃ v, e = .returned (.tuple #[v, .int .i64 I]) ∧ Own w.heap.size 111 2 dPlace w' v PL ∧ Below w.heap.size w w'
theorem CmpOpen.of {a b : List Btc} {c kind : Int} {PL : List Place} {I : Int} {w w' : World} {e : Ending} (hI : fitI a b c kind = I) (hP : (if fitI a b c kind = 0 then placesL a b else []) = PL) (h : CmpGives a b c kind w e w') : CmpOpen PL I w e w' := by
  subst hI; subst hP; exact h
def RepOpen (RL : List Btc) (J : Int) (w : World) (e : Ending) (w' : World) : Prop :=
  ∃ v, e = .returned (.tuple #[v, .int .i64 J]) ∧ WBtcs (From w.heap.size) w' v RL ∧ Below w.heap.size w w'
theorem RepOpen.of {a b : List Btc} {c kind : Int} {is : List Int} {RL : List Btc} {J : Int} {w w' : World} {e : Ending} (hJ : repI a b c kind is = J) (hR : repV a b c kind is = RL) (h : RepGives a b c kind is w e w') : RepOpen RL J w e w' := by
  subst hJ; subst hR; exact h
end Go.Proofs.Ytkjgddcjhikdgaa
