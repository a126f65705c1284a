/- The law CanvassSame returns true whatever the input, and every argument reads behind the call as it read before. No condition. -/
import Derived.Test.YtkjgddcjhikdgaaGCan
import Derived.Test.YtkjgddcjhikdgaaGTell
import Derived.Test.YtkjgddcjhikdgaaRows
import Derived.Test.YtkjgddcjhikdgaaGFoot
import Derived.StillTailTactics
import Derived.Deep.CutBlock
import Derived.WalkKit
import Derived.ProofKit
import Derived.OpenShut
import Derived.ShutString
import Derived.ChangeOld
import Derived.Below

/- Counts compared with each other: plain laws on the answers of Compare; no program. -/
namespace Go.Proofs.Ytkjgddcjhikdgaa
open Go Go.RowKit Go.Shelf

theorem eqL_comm {α : Type} {p : α → α → Bool} (hp : ∀ x y, p x y = p y x) (xs ys : List α) : eqL p xs ys = eqL p ys xs := by
  rw [Bool.eq_iff_iff]
  exact ⟨fun h => eqL_of (eqL_len h).symm fun k h1 h2 => by rw [hp]; exact eqL_get h k h2 h1, fun h => eqL_of (eqL_len h).symm fun k h1 h2 => by rw [hp]; exact eqL_get h k h2 h1⟩
theorem eqInt_comm (x y : Int) : eqInt x y = eqInt y x := decide_eq_decide.2 eq_comm
theorem eqBlt_comm (x y : Blt) : eqBlt x y = eqBlt y x := by
  rw [eqBlt, eqBlt, eqL_comm eqInt_comm, decide_eq_decide.2 (eq_comm (a := x.kind))]
theorem eqSlot_comm (x y : Slot) : eqSlot x y = eqSlot y x := by
  rw [eqSlot, eqSlot, sameName_comm, decide_eq_decide.2 (eq_comm (a := x.many))]
theorem fitI_zero {a b : List Btc} {c kind : Int} : fitI a b c kind = 0 ↔ recCheck a c kind = 0 ∧ recCheck b c kind = 0 ∧ eqL eqSlot (maniL a) (maniL b) = true := by
  constructor
  · intro h; exact (fitted h).2
  · rintro ⟨h1, h2, h3⟩
    rw [fitI, fit3, if_pos h1, if_pos h2, if_pos h3]
theorem fitI_comm {a b : List Btc} {c kind : Int} : fitI a b c kind = 0 ↔ fitI b a c kind = 0 := by
  rw [fitI_zero, fitI_zero, eqL_comm eqSlot_comm (maniL a)]
  exact ⟨fun ⟨h1, h2, h3⟩ => ⟨h2, h1, h3⟩, fun ⟨h1, h2, h3⟩ => ⟨h2, h1, h3⟩⟩
theorem difRow_comm (i : Nat) (xs ys : List Blt) (n : Nat) : difRow i xs ys n = difRow i ys xs n := by
  unfold difRow
  refine congrArg _ (List.filter_congr fun k _ => ?_)
  rw [eqBlt_comm]
theorem flat_congr {α β : Type} {f g : α → List β} : ∀ {l : List α}, (∀ x ∈ l, f x = g x) → l.flatMap f = l.flatMap g
  | [], _ => rfl
  | x :: l, h => by rw [List.flatMap_cons, List.flatMap_cons, h x (List.mem_cons_self ..), flat_congr fun y hy => h y (List.mem_cons_of_mem _ hy)]
theorem places_comm {a b : List Btc} (h : Fitted a b) : placesL a b = placesL b a := by
  unfold placesL difAll
  rw [h.1]
  refine flat_congr fun k hk => ?_
  have hk := List.mem_range.1 hk
  rw [getD_at zC hk, getD_at zC (show k < a.length by rw [h.1]; exact hk), h.2 k (by rw [h.1]; exact hk) hk, difRow_comm]
theorem difRow_nil {i : Nat} {xs ys : List Blt} {n : Nat} : difRow i xs ys n = [] ↔ ∀ k, k < n → eqBlt (xs.getD k zB) (ys.getD k zB) = true := by
  unfold difRow
  rw [List.map_eq_nil_iff, List.filter_eq_nil_iff]
  simp
theorem places_nil {a b : List Btc} {c kind : Int} (h0 : fitI a b c kind = 0) : placesL a b = [] ↔ eqL eqBtc a b = true := by
  obtain ⟨hf, -, -, hs⟩ := fitted h0
  unfold placesL difAll
  rw [List.flatMap_eq_nil_iff]
  constructor
  · intro h
    refine eqL_of hf.1 fun k h1 h2 => ?_
    have hr := difRow_nil.1 (h k (List.mem_range.2 h1))
    rw [getD_at zC h1, getD_at zC h2] at hr
    have hm := eqL_get hs k (by simpa [maniL] using h1) (by simpa [maniL] using h2)
    simp only [maniL, List.getElem_map, eqSlot, Bool.and_eq_true] at hm
    rw [eqBtc, hm.1, Bool.true_and]
    refine eqL_of (hf.2 k h1 h2) fun j j1 j2 => ?_
    have := hr j j1
    rwa [getD_at zB j1, getD_at zB j2] at this
  · intro h k hk
    have h1 := List.mem_range.1 hk
    have h2 : k < b.length := by rw [← hf.1]; exact h1
    rw [difRow_nil, getD_at zC h1, getD_at zC h2]
    intro j j1
    have hb := eqL_get h k h1 h2
    rw [eqBtc, Bool.and_eq_true] at hb
    have j2 : j < b[k].blts.length := by rw [← hf.2 k h1 h2]; exact j1
    rw [getD_at zB j1, getD_at zB j2]
    exact eqL_get hb.2 j j1 j2
theorem places_self (a : List Btc) : placesL a a = [] := by
  unfold placesL difAll
  rw [List.flatMap_eq_nil_iff]
  intro k _
  rw [difRow_nil]
  intro j _
  exact eqBlt_refl _
end Go.Proofs.Ytkjgddcjhikdgaa

/- Replacing batches by those of another count: the list, and the row of the call's own in which it is done. -/
namespace Go.Proofs.Ytkjgddcjhikdgaa
open Go Go.RowKit Go.Shelf

def replL (a b : List Btc) (is : List Int) : List Btc := is.foldl (fun acc i => acc.set i.toNat (b.getD i.toNat zC)) a
theorem replL_snoc (a b : List Btc) (is : List Int) (i : Int) : replL a b (is ++ [i]) = (replL a b is).set i.toNat (b.getD i.toNat zC) := by simp [replL]
theorem replL_len (a b : List Btc) (is : List Int) : (replL a b is).length = a.length := by
  unfold replL
  induction is generalizing a with
  | nil => rfl
  | cons i is ih => rw [List.foldl_cons, ih]; simp
/-- The indices are in range, and none occurs twice. -/
def okB (n : Nat) (is : List Int) : Bool := is.all (fun i => decide (0 ≤ i ∧ i < n)) && decide is.Nodup
theorem okB_nil (n : Nat) : okB n [] = true := rfl
theorem okB_snoc {n : Nat} {is : List Int} {i : Int} (h : okB n is = true) : okB n (is ++ [i]) = (decide (0 ≤ i ∧ i < n) && !decide (i ∈ is)) := by
  simp only [okB, Bool.and_eq_true, decide_eq_true_eq] at h
  simp only [okB, List.all_append, h.1, List.all_cons, List.all_nil, Bool.true_and, Bool.and_true]
  by_cases hr : 0 ≤ i ∧ i < n
  · simp only [hr, and_self, decide_true, Bool.true_and]
    by_cases hm : i ∈ is
    · simp [hm, List.nodup_append]
    · simp only [hm, decide_false, Bool.not_false, decide_eq_true_eq]
      rw [List.nodup_append]
      refine ⟨h.2, by simp, fun x hx y hy => ?_⟩
      simp at hy
      subst hy
      exact fun he => hm (he ▸ hx)
  · simp [hr]
theorem okB_take {n : Nat} {is : List Int} {k : Nat} (hk : k < is.length) (h : okB n (is.take k) = true) : okB n (is.take (k + 1)) = (decide (0 ≤ is[k] ∧ is[k] < n) && !decide (is[k] ∈ is.take k)) := by
  rw [List.take_succ_eq_append_getElem hk, okB_snoc h]
theorem okB_false {n : Nat} {is : List Int} {k : Nat} (h : okB n (is.take k) = false) : okB n is = false := by
  cases hb : okB n is
  · rfl
  · simp only [okB, Bool.and_eq_true, List.all_eq_true, decide_eq_true_eq] at hb
    have : okB n (is.take k) = true := by
      simp only [okB, Bool.and_eq_true, List.all_eq_true, decide_eq_true_eq]
      exact ⟨fun x hx => hb.1 x (List.mem_of_mem_take hx), hb.2.sublist (List.take_sublist _ _)⟩
    rw [this] at h
    cases h

/-- From lo on, below hi, but for the row's own block. -/
def RepT (lo hi : Nat) (v : Value) : Nat → Prop := fun b => lo ≤ b ∧ b < hi ∧ some b ≠ v.ownBlock
def RepOut (lo mid hi : Nat) (w3 wr : World) (v : Value) (a b : List Btc) (is : List Int) : Prop :=
  Own lo 64 2 (wBtc (RepT lo hi v)) wr v (replL a b is) ∧ Same (Span mid hi) w3 wr ∧ (∀ g, v.ownBlock = some g → g < mid) ∧ lo ≤ mid ∧ mid ≤ hi ∧ hi ≤ wr.heap.size
theorem RepOut.start {lo : Nat} {w2 w3 : World} {v : Value} {ys : List Sp} {a b : List Btc} (h : Twinned lo w2 v ys) (hy : ys.map (·.x) = a) (hlo : lo ≤ w2.heap.size) (hb : Below w2.heap.size w2 w3) :
    RepOut lo w2.heap.size w3.heap.size w3 w3 v a b [] := by
  have h1 := h.below hb
  have h2 := Own.map (dec' := wBtc (RepT lo w3.heap.size v)) (·.x) h1.1 (fun x _ cs hd => (dSep.toW hd).mono fun b hb => ⟨hb.1, hb.2.1, hb.2.2⟩)
  rw [hy] at h2
  exact ⟨h2, Same.refl _ _, fun g hg => (Own.lt h.1 g hg).2, hlo, hb.size, Nat.le_refl _⟩
theorem RepOut.at {lo mid hi : Nat} {w3 wr : World} {a1 : Option Addr} {n c : Nat} {a b : List Btc} {is : List Int} (h : RepOut lo mid hi w3 wr (.slice a1 n c) a b is) {k : Nat} (hk : k < a.length) :
    ∃ g x y, a1 = some ⟨g, 0, none⟩ ∧ lo ≤ g ∧ g < mid ∧ g < wr.heap.size ∧ wr.cell? ⟨g, k * 2, none⟩ = some x ∧ wr.cell? ⟨g, k * 2 + 1, none⟩ = some y ∧ ∀ o, wr.frozen? ⟨g, o, none⟩ = false := by
  obtain ⟨g, x, y, rfl, h1, h2, h3, h4, h5, -⟩ := Own.at2 h.1 (by rw [replL_len]; exact hk)
  exact ⟨g, x, y, rfl, h1, h.2.2.1 g rfl, h2, h3, h4, h5⟩
/-- The other count's batch, read in the middle. -/
theorem other_at {mid hi : Nat} {w3 wr : World} {a2 : Option Addr} {n2 c2 : Nat} {b : List Btc} (h : WBtcs (Span mid hi) w3 (.slice a2 n2 c2) b) (hs : Same (Span mid hi) w3 wr) {k : Nat} (hk : k < b.length) :
    ∃ g off p q, a2 = some ⟨g, off, none⟩ ∧ mid ≤ g ∧ wr.cell? ⟨g, off + k * 2, none⟩ = some (.string b[k].name) ∧ wr.cell? ⟨g, off + k * 2 + 1, none⟩ = some (.slice p b[k].blts.length q) ∧ wBtc (Span mid hi) wr [.string b[k].name, .slice p b[k].blts.length q] b[k] := by
  obtain ⟨g, off, c, d, rfl, hS, -, hc, hd, hx⟩ := RSl.at2 (WBtcs.same hs h).1 k hk
  obtain ⟨p, q, rfl, rfl, -⟩ := hx.toD.open
  exact ⟨g, off, p, q, rfl, hS.1, hc, hd, hx⟩
theorem RepOut.step {lo mid hi : Nat} {w3 wr w' : World} {g n c : Nat} {a b : List Btc} {is : List Int} (h : RepOut lo mid hi w3 wr (.slice (some ⟨g, 0, none⟩) n c) a b is) {i : Int} {k : Nat} (hi' : i = k) (hk : k < a.length) (hkb : k < b.length) {x y : Value}
    (hx : wBtc (Span mid hi) wr [x, y] b[k]) (hw : ∀ j, j < hi → w'.heap[j]? = ((wr.setCell ⟨g, k * 2, none⟩ x).setCell ⟨g, k * 2 + 1, none⟩ y).heap[j]?) (hz : wr.heap.size ≤ w'.heap.size) :
    RepOut lo mid hi w3 w' (.slice (some ⟨g, 0, none⟩) n c) a b (is ++ [i]) := by
  obtain ⟨h1, h2, h3, h4, hmh, h5⟩ := h
  subst hi'
  have hg := h3 g rfl
  have hoff : ∀ j, j < hi → j ≠ g → w'.heap[j]? = wr.heap[j]? := fun j hj hne => (hw j hj).trans (setCell2_off hne x y)
  refine ⟨?_, fun j hj hS => (hoff j hS.2 (by have := hS.1; omega)).trans (h2 j hj hS), h3, h4, hmh, Nat.le_trans h5 hz⟩
  have hset : replL a b (is ++ [(k : Int)]) = (replL a b is).set k b[k] := by rw [replL_snoc, Int.toNat_natCast, getD_at zC hkb]
  rw [hset]
  refine Own.put2 h1 (by rw [replL_len]; exact hk) (c := x) (u := y) (fun cur hcur _ => ?_) ?_ (fun j hj hjk cs hcs => ?_)
  · obtain ⟨cur', e1, e2⟩ := heap_setCell2 (k := k) hcur x y
    exact ⟨cur', (hw g (by omega)).trans e1, e2⟩
  · refine (wBtc.stable (Span mid hi) _ _ _ _ (fun j _ hS => hoff j hS.2 (by have := hS.1; omega)) hx).mono fun j hS => ⟨by have := hS.1; omega, hS.2, fun he => ?_⟩
    simp only [Value.ownBlock, Option.some.injEq] at he
    have := hS.1
    omega
  · exact wBtc.stable (RepT lo hi (.slice (some ⟨g, 0, none⟩) n c)) _ _ _ _ (fun j _ hS => hoff j hS.2.1 (fun he => hS.2.2 (by rw [he]; rfl))) hcs
theorem RepOut.done {lo mid hi : Nat} {w3 wr : World} {v : Value} {a b : List Btc} {is : List Int} (h : RepOut lo mid hi w3 wr v a b is) (hl : a.length ≤ 1000000) : WBtcs (From lo) wr v (replL a b is) :=
  WSl.mono (fun _ _ _ hd => hd.mono fun _ hb => hb.1) (fun _ hb => hb) (Own.wsl h.1 (by rw [replL_len]; omega))
end Go.Proofs.Ytkjgddcjhikdgaa

/- The contracts of canvass.Replace and of the reference's Replace. -/
namespace Go.Proofs.Ytkjgddcjhikdgaa
open Go Go.RowKit Go.Shelf Go.Maps

def repI (a b : List Btc) (c kind : Int) (is : List Int) : Int := if fitI a b c kind = 0 then (if okB a.length is then 0 else 2) else fitI a b c kind
def repV (a b : List Btc) (c kind : Int) (is : List Int) : List Btc := if repI a b c kind is = 0 then replL a b is else []
def RepGives (a b : List Btc) (c kind : Int) (is : List Int) (w : World) (e : Ending) (w' : World) : Prop :=
  ∃ v, e = .returned (.tuple #[v, .int .i64 (repI a b c kind is)]) ∧ WBtcs (From w.heap.size) w' v (repV a b c kind is) ∧ Below w.heap.size w w'
theorem RepGives.none {a b : List Btc} {c kind : Int} {is : List Int} {w w' : World} {i : Int} (hi : repI a b c kind is = i) (h0 : i ≠ 0) (hb : Below w.heap.size w w') :
    RepGives a b c kind is w (.returned (.tuple #[.slice none 0 0, .int .i64 i])) w' := ⟨_, by rw [hi], by rw [repV, if_neg (by rw [hi]; exact h0)]; exact WSl.nil, hb⟩
theorem RepGives.some {a b : List Btc} {c kind : Int} {is : List Int} {w w' : World} {v : Value} {lo : Nat} (hf : fitI a b c kind = 0) (ho : okB a.length is = true) (hv : WBtcs (From lo) w' v (replL a b is)) (hlo : w.heap.size ≤ lo) (hb : Below w.heap.size w w') :
    RepGives a b c kind is w (.returned (.tuple #[v, .int .i64 0])) w' := by
  have hi : repI a b c kind is = 0 := by rw [repI, if_pos hf, if_pos ho]
  exact ⟨v, by rw [hi], by rw [repV, if_pos hi]; exact WSl.mono (fun _ _ _ hh => hh.mono fun _ hc => Nat.le_trans hlo hc) (fun _ hc => Nat.le_trans hlo hc) hv, hb⟩
theorem repI_bad {a b : List Btc} {c kind : Int} {is : List Int} (hf : fitI a b c kind = 0) (ho : okB a.length is = false) : repI a b c kind is = 2 := by rw [repI, if_pos hf, if_neg (by rw [ho]; simp)]
theorem RepOut.below {lo mid hi : Nat} {w3 wr w' : World} {v : Value} {a b : List Btc} {is : List Int} (h : RepOut lo mid hi w3 wr v a b is) (hb : Below wr.heap.size wr w') : RepOut lo mid hi w3 w' v a b is := by
  obtain ⟨h1, h2, h3, h4, h5, h6⟩ := h
  exact ⟨Own.below (wBtc.stable _) h1 hb, fun j hj hS => (hb.block j (Nat.lt_of_lt_of_le hS.2 h6)).trans (h2 j hj hS), h3, h4, h5, Nat.le_trans h6 hb.size⟩
theorem Try.zeroBool (w : World) : (zeroValue 4).run Try.prog w = .ok (.bool false) w := by kernel_rfl

set_option maxHeartbeats 2000000 in
theorem canvassReplace_unfit (S T : Nat → Prop) (u v z : Value) (a b : List Btc) (c kind : Int) (is : List Int) (w : World) (hx : RBtcs S w u a) (hy : RBtcs T w v b) (hsa : Small a) (hsb : Small b) (hf : fitI a b c kind ≠ 0) :
    Calls Try.prog 49 #[u, v, .int .i64 c, .int .u8 kind, z] w (RepGives a b c kind is w) := by
  have hF := canvassFit S T u v a b c kind w hx hy hsa.1 hsb.1
  have hG := fun w' (hb : Below w.heap.size w w') => RepGives.none (a := a) (b := b) (c := c) (kind := kind) (is := is) (w := w) (w' := w') (by rw [repI, if_neg hf]) hf hb
  obtain ⟨a1, cap1, rfl, -, -⟩ := RSl.shape hx
  obtain ⟨a2, cap2, rfl, -, -⟩ := RSl.shape hy
  generalize fitI a b c kind = I at *
  have hz : (I != 0) = true := by simpa using hf
  have HF := Lib.hid hF; have HG := Lib.hid hG; clear hF hG hf hx hy
  go_enter Try.func49, Try.ntmps49
  go_wp2_with (go_at_call 90; refine HF.out.mono ?_; rintro e w1 ⟨rfl, hb1⟩)
  go_ret2
  exact HG.out _ hb1

set_option maxHeartbeats 4000000 in
set_option maxRecDepth 100000 in
theorem canvassReplace_fit (S T U : Nat → Prop) (u v z : Value) (a b : List Btc) (c kind : Int) (is : List Int) (w : World) (hx : RBtcs S w u a) (hy : RBtcs T w v b) (hzi : RInts U w z is) (hli : is.length ≤ 1000) (hsa : Small a) (hsb : Small b) (hf : fitI a b c kind = 0) :
    Calls Try.prog 49 #[u, v, .int .i64 c, .int .u8 kind, z] w (RepGives a b c kind is w) := by
  have hF := canvassFit S T u v a b c kind w hx hy hsa.1 hsb.1
  have hft := (fitted hf).1
  have hBad := fun w' (hb : Below w.heap.size w w') (ho : okB a.length is = false) => RepGives.none (a := a) (b := b) (c := c) (kind := kind) (is := is) (w := w) (w' := w') (repI_bad hf ho) (by omega) hb
  have hGood := fun w' p lo (ho : okB a.length is = true) hv (hlo : w.heap.size ≤ lo) (hb : Below w.heap.size w w') => RepGives.some (a := a) (b := b) (c := c) (kind := kind) (is := is) (w := w) (w' := w') (v := p) (lo := lo) hf ho hv hlo hb
  have hTA := fun W (hW : Below w.heap.size w W) => twin S u a W (hx.same (.of_below hW)) hsa
  have hTB := fun W (hW : Below w.heap.size w W) => twin T v b W (hy.same (.of_below hW)) hsb
  rw [hf] at hF
  obtain ⟨a1, cap1, rfl, hx1, hx2⟩ := RSl.shape hx
  obtain ⟨a2, cap2, rfl, -, -⟩ := RSl.shape hy
  obtain ⟨a3, cap3, rfl, hz1, hz2⟩ := RSl.shape hzi
  have hmm := @run_makeMap Try.prog
  have HF := Lib.hid hF; have HBad := Lib.hid hBad; have HGood := Lib.hid hGood; have HTA := Lib.hid hTA; have HTB := Lib.hid hTB; have HZ := Lib.hid hzi; have Hft := Lib.hid hft; have Hsa := Lib.hid hsa; have Hsb := Lib.hid hsb
  clear hF hBad hGood hTA hTB hzi hft hsa hsb hx hy hf
  go_enter Try.func49, Try.ntmps49
  go_wp2_with (first
    | (go_at_call 90; refine HF.out.mono ?_; rintro e w1 ⟨rfl, hb1⟩; have hl1 := hb1.size)
    | (go_at_call_of 38 (a1); refine (HTA.out _ hb1).mono ?_; rintro e w2 ⟨v2, ys, rfl, htw, hys, hb2⟩; have hq2 := hb1.trans (hb2.mono hl1); have hl2 := hq2.size; obtain ⟨a4, c4, e4⟩ := id (OwnX.shape htw.1); rw [show ys.length = a.length from (by have := congrArg List.length hys; simpa using this)] at e4; subst e4; have Htw := Lib.hid htw; have Hys := Lib.hid hys; have Hb2 := Lib.hid hb2.size; clear htw hys)
    | (go_at_call 38; refine (HTB.out _ hq2).mono ?_; rintro e w3 ⟨v3, zs, rfl, htw3, hzs, hb3⟩; have hq3 := hq2.trans (hb3.mono hl2); have hl3 := hq3.size; obtain ⟨a5, c5, e5⟩ := id (OwnX.shape htw3.1); rw [show zs.length = b.length from (by have := congrArg List.length hzs; simpa using this)] at e5; subst e5; have Hot := Lib.hid (twin_reads htw3 hzs Hsb.out); have Hb3 := Lib.hid hb3; clear htw3 hzs))
  have hro := (RepOut.start (b := b) Htw.out Hys.out Hb2.out Hb3.out).below (below_new w3 (.map #[] 0))
  have hmf := MapF.made w3 Try.prog 3 4
  have hq4 : Below w.heap.size w (w3.alloc (.map #[] 0)) := hq3.alloc hl3 _
  have Hro := Lib.hid hro; have Hmf := Lib.hid hmf
  clear hro hmf hmm Htw Hys HTA HTB HF
  go_loopw [33] (fun i wr => ∃ (k : Nat) (f : Lit → Option Lit), k ≤ is.length ∧ i = .int .i64 k ∧ Hid (okB a.length (is.take k) = true) ∧ Hid (MapF wr Try.prog 3 4 w3.heap.size k f) ∧ Hid (∀ x : Int, isTrue (f (.int .i64 x)) = decide (x ∈ is.take k)) ∧
    Hid (RepOut w1.heap.size w2.heap.size w3.heap.size w3 wr (.slice a4 a.length c4) a b (is.take k)) ∧ Below w.heap.size w wr) (fun i _ => is.length - (intOf i).toNat)
  case atStart => exact ⟨0, _, Nat.zero_le _, rfl, Lib.hid (by rw [List.take_zero]; exact okB_nil _), Hmf, Lib.hid (fun x => by simp [isTrue]), by rw [List.take_zero]; exact Hro, hq4⟩
  case round =>
    clear Hro Hmf hq4
    obtain ⟨k, f, hk, rfl, hok, hmf, hfx, hro, hb⟩ := hrel
    have hlr := hb.size
    by_cases hlt : k < is.length
    · obtain ⟨bz, offz, cz, rfl, -, hbz, hcz, hdz⟩ := RSl.at1 (RInts.same (.of_below hb) HZ.out) k hlt
      obtain ⟨rfl, hwz⟩ := hdz.open
      have hnx := okB_take hlt hok.out
      have hlk := fun x => (hmf.out.look_bool (int_keyed Try.underlying3) Try.underlying148 Try.underlying4 (Try.zeroBool wr) (key := .int .i64 x) (kl := .int .i64 x) : keyOf Try.prog 3 (.int .i64 x) = some (.int .i64 x) → _)
      have hts : is.take (k + 1) = is.take k ++ [is[k]] := List.take_succ_eq_append_getElem hlt
      have hmem := hfx.out is[k]
      obtain ⟨x, hx⟩ : ∃ x, x = is[k] := ⟨_, rfl⟩
      rw [← hx] at hcz hwz hnx hts hmem
      have hlkx := hlk x (keyOf_int_mk Try.underlying3 hwz)
      have Hnx := Lib.hid hnx; have Hts := Lib.hid hts; have Hmem := Lib.hid hmem; have Hwz := Lib.hid hwz; have Hx := Lib.hid hx
      have hwx := wf_i64 hwz
      clear hnx hts hmem hlk hx hdz hwz
      have hdead : okB a.length (is.take (k + 1)) = false → okB a.length is = false := okB_false
      have Hdead := Lib.hid hdead; clear hdead
      by_cases b1 : x < 0
      · go_wp2
        go_ret2
        exact HBad.out _ hb (Hdead.out (by rw [Hnx.out, decide_eq_false (by omega), Bool.false_and]))
      by_cases b2 : (a.length : Int) ≤ x
      · go_wp2
        go_ret2
        exact HBad.out _ hb (Hdead.out (by rw [Hnx.out, decide_eq_false (by omega), Bool.false_and]))
      cases hit : isTrue (f (.int .i64 x))
      · rw [hit] at hlkx
        have hnm : ¬ x ∈ is.take k := by have := Hmem.out; rw [hit] at this; simpa using this.symm
        have hok2 : okB a.length (is.take (k + 1)) = true := by rw [Hnx.out, decide_eq_true (by omega : 0 ≤ x ∧ x < a.length), decide_eq_false hnm]; rfl
        have Hok2 := Lib.hid hok2; have Hnm := Lib.hid hnm
        clear hit hok2 hnm
        obtain ⟨n, rfl⟩ : ∃ n : Nat, x = n := ⟨x.toNat, by omega⟩
        have hn : n < a.length := by omega
        have hnb : n < b.length := by have := Hft.out.1; omega
        obtain ⟨g, y0, y1, rfl, hg1, hg2, hg3, hgc, hgd, hgf⟩ := hro.out.at hn
        obtain ⟨g5, off5, p5, q5, rfl, hg5, hoc, hod, how⟩ := other_at Hot.out hro.out.2.1 hnb
        have hgne : g ≠ g5 := by omega
        have hg3m : g < w3.heap.size := by have := Hb3.out.size; omega
        have hmf2 := (hmf.out.setCell (a := ⟨g, n * 2, none⟩) (by simp; omega) (.string b[n].name)).setCell (a := ⟨g, n * 2 + 1, none⟩) (by simp; omega) (.slice p5 b[n].blts.length q5)
        have Hmf2 := Lib.hid hmf2; have How := Lib.hid how
        clear hmf2 how
        go_wp2_with (at_mapUpdate; refine wpList_mapF _ rfl _ _ _ 148 rfl 3 4 (int_keyed Try.underlying3) Try.underlying148 w3.heap.size k f rfl Hmf2.out (by unfold maxLen; omega) _ _ (.int .i64 n) rfl rfl (keyOf_int_mk Try.underlying3 Hwz.out) trivial (.bool true) (plainElem_bool Try.underlying4 true) ?_; intro w6 hm6 hg6)
        refine ⟨⟨k + 1, _, by omega, by go_num, Hok2, Lib.hid hm6, Lib.hid (fun x' => ?_), Lib.hid ?_, ?_⟩, by simp [intOf]; omega⟩
        · rw [Hts.out]
          by_cases he : x' = n
          · subst he; rw [upd_same]; simp [isTrue]
          · rw [upd_other f (fun h => he (by injection h)), hfx.out x']; simp [he]
        · rw [Hts.out]
          exact hro.out.step rfl hn hnb How.out (fun j hj => hg6.block j (by simp [World.setCell]; have := hro.out.2.2.2.2.2; omega) (by simp; omega)) (by have := hg6.size; simpa [World.setCell] using this)
        · exact ((hb.setCell (p := ⟨g, n * 2, none⟩) (by simp; omega) _).setCell (p := ⟨g, n * 2 + 1, none⟩) (by simp; omega) _).grown hg6 (by simp [World.setCell]; omega) (fun j hj => by cases hj; omega)
      · rw [hit] at hlkx
        have hm : x ∈ is.take k := by have := Hmem.out; rw [hit] at this; simpa using this.symm
        have hbd := Hdead.out (by rw [Hnx.out, decide_eq_true hm]; simp)
        have Hbd := Lib.hid hbd
        clear hit hm hbd
        go_wp2
        go_ret2
        exact HBad.out _ hb Hbd.out
    · have hk' : k = is.length := by omega
      subst hk'
      go_wp2
      go_ret2
      exact HGood.out _ _ _ (by have := hok.out; rwa [List.take_length] at this) (by have := hro.out.done Hsa.out.1; rwa [List.take_length] at this) hl1 hb
end Go.Proofs.Ytkjgddcjhikdgaa

/- The contract of the reference's Replace; both Replaces. -/
namespace Go.Proofs.Ytkjgddcjhikdgaa
open Go Go.RowKit Go.Shelf Go.Maps

set_option maxHeartbeats 2000000 in
theorem refReplace_unfit (S T : Nat → Prop) (u v z : Value) (a b : List Btc) (c kind : Int) (is : List Int) (w : World) (hx : RBtcs S w u a) (hy : RBtcs T w v b) (hsa : Small a) (hsb : Small b) (hf : fitI a b c kind ≠ 0) :
    Calls Try.prog 50 #[u, v, .int .i64 c, .int .u8 kind, z] w (RepGives a b c kind is w) := by
  have hF := refFit S T u v a b c kind w hx hy hsa.1 hsb.1
  have hG := fun w' (hb : Below w.heap.size w w') => RepGives.none (a := a) (b := b) (c := c) (kind := kind) (is := is) (w := w) (w' := w') (by rw [repI, if_neg hf]) hf hb
  obtain ⟨a1, cap1, rfl, -, -⟩ := RSl.shape hx
  obtain ⟨a2, cap2, rfl, -, -⟩ := RSl.shape hy
  generalize fitI a b c kind = I at *
  have hz : (I != 0) = true := by simpa using hf
  have HF := Lib.hid hF; have HG := Lib.hid hG; clear hF hG hf hx hy
  go_enter Try.func50, Try.ntmps50
  go_wp2_with (go_at_call 91; refine HF.out.mono ?_; rintro e w1 ⟨rfl, hb1⟩)
  go_ret2
  exact HG.out _ hb1

set_option maxHeartbeats 4000000 in
set_option maxRecDepth 100000 in
theorem refReplace_fit (S T U : Nat → Prop) (u v z : Value) (a b : List Btc) (c kind : Int) (is : List Int) (w : World) (hx : RBtcs S w u a) (hy : RBtcs T w v b) (hzi : RInts U w z is) (hli : is.length ≤ 1000) (hsa : Small a) (hsb : Small b) (hf : fitI a b c kind = 0) :
    Calls Try.prog 50 #[u, v, .int .i64 c, .int .u8 kind, z] w (RepGives a b c kind is w) := by
  have hF := refFit S T u v a b c kind w hx hy hsa.1 hsb.1
  have hft := (fitted hf).1
  have hBad := fun w' (hb : Below w.heap.size w w') (ho : okB a.length is = false) => RepGives.none (a := a) (b := b) (c := c) (kind := kind) (is := is) (w := w) (w' := w') (repI_bad hf ho) (by omega) hb
  have hGood := fun w' p lo (ho : okB a.length is = true) hv (hlo : w.heap.size ≤ lo) (hb : Below w.heap.size w w') => RepGives.some (a := a) (b := b) (c := c) (kind := kind) (is := is) (w := w) (w' := w') (v := p) (lo := lo) hf ho hv hlo hb
  have hTA := fun W (hW : Below w.heap.size w W) => twinRef S u a W (hx.same (.of_below hW)) hsa
  have hTB := fun W (hW : Below w.heap.size w W) => twinRef T v b W (hy.same (.of_below hW)) hsb
  rw [hf] at hF
  obtain ⟨a1, cap1, rfl, hx1, hx2⟩ := RSl.shape hx
  obtain ⟨a2, cap2, rfl, -, -⟩ := RSl.shape hy
  obtain ⟨a3, cap3, rfl, hz1, hz2⟩ := RSl.shape hzi
  have HF := Lib.hid hF; have HBad := Lib.hid hBad; have HGood := Lib.hid hGood; have HTA := Lib.hid hTA; have HTB := Lib.hid hTB; have HZ := Lib.hid hzi; have Hft := Lib.hid hft; have Hsa := Lib.hid hsa; have Hsb := Lib.hid hsb
  clear hF hBad hGood hTA hTB hzi hft hsa hsb hx hy hf
  go_enter Try.func50, Try.ntmps50
  go_wp2_with (go_at_call 91; refine HF.out.mono ?_; rintro e w1 ⟨rfl, hb1⟩)
  have hl1 := hb1.size
  go_loopw [13] (fun i wr => ∃ k : Nat, k ≤ is.length ∧ i = .int .i64 k ∧ Hid (okB a.length (is.take k) = true) ∧ Below w.heap.size w wr) (fun i _ => is.length - (intOf i).toNat)
  case atStart => exact ⟨0, Nat.zero_le _, rfl, Lib.hid (by rw [List.take_zero]; exact okB_nil _), hb1⟩
  case round =>
    obtain ⟨k, hk, rfl, hok, hb⟩ := hrel
    have hlr := hb.size
    by_cases hlt : k < is.length
    · obtain ⟨bz, offz, cz, rfl, -, hbz, hcz0, hdz⟩ := RSl.at1 HZ.out k hlt
      have hcz := (Same.of_below (S := Any) hb).cell trivial hcz0
      obtain ⟨rfl, hwz⟩ := hdz.open
      have hnx := okB_take hlt hok.out
      have hdead : okB a.length (is.take (k + 1)) = false → okB a.length is = false := okB_false
      obtain ⟨x, hx⟩ : ∃ x, x = is[k] := ⟨_, rfl⟩
      rw [← hx] at hcz hcz0 hwz hnx
      have Hnx := Lib.hid hnx; have Hx := Lib.hid hx; have Hdead := Lib.hid hdead
      have hwx := wf_i64 hwz
      clear hnx hx hdz hwz hdead
      by_cases b1 : x < 0
      · go_wp2
        go_ret2
        exact HBad.out _ hb (Hdead.out (by rw [Hnx.out, decide_eq_false (by omega), Bool.false_and]))
      by_cases b2 : (a.length : Int) ≤ x
      · go_wp2
        go_ret2
        exact HBad.out _ hb (Hdead.out (by rw [Hnx.out, decide_eq_false (by omega), Bool.false_and]))
      go_wp2
      obtain ⟨wo, rfl⟩ : ∃ wo, wo = wr := ⟨_, rfl⟩
      go_loopw [14] (fun i wr => ∃ j : Nat, j ≤ k ∧ i = .int .i64 j ∧ Hid (¬ x ∈ is.take j) ∧ Below w.heap.size w wr) (fun i _ => k - (intOf i).toNat)
      case atStart => exact ⟨0, Nat.zero_le _, rfl, Lib.hid (by simp), hb⟩
      case round =>
        clear hcz
        obtain ⟨j, hj, rfl, hnm, hbj⟩ := hrel
        have hcz := (Same.of_below (S := Any) hbj).cell trivial hcz0
        by_cases hjk : j < k
        · obtain ⟨bz2, offz2, cy, e2, -, hby, hcy0, hdy⟩ := RSl.at1 HZ.out j (by omega)
          simp only [Option.some.injEq, Addr.mk.injEq, and_true] at e2
          obtain ⟨rfl, rfl⟩ := e2
          obtain ⟨rfl, -⟩ := hdy.open
          have hcy := (Same.of_below (S := Any) hbj).cell trivial hcy0
          have hjl : j < is.length := by omega
          have hts : is.take (j + 1) = is.take j ++ [is[j]] := List.take_succ_eq_append_getElem hjl
          have hmk : is[j] = x → x ∈ is.take k := fun he => he ▸ List.mem_take_iff_getElem.2 ⟨j, by omega, rfl⟩
          obtain ⟨y, hy⟩ : ∃ y, y = is[j] := ⟨_, rfl⟩
          rw [← hy] at hcy hcy0 hts hmk
          have e1 := fun p => cell_ext (w := wr) hcz p
          have e2 := fun p => cell_ext (w := wr) hcy p
          have Hts := Lib.hid hts; have Hmk := Lib.hid hmk
          clear hts hmk hy hdy hcy hcz hcy0
          by_cases he : y = x
          · have he' : (y == x) = true := by simpa using he
            have He := Lib.hid he; clear he
            go_wp2
            refine wp_region_ext (by kernel_rfl) (by kernel_rfl) ?_
            repeat (go_big_quiet_step (fail))
            refine wpQuiet_nil ?_
            intro w5 hw'
            have hb5 : Below wr.heap.size wr w5 := by obtain ⟨p, rfl⟩ := hw'; exact below_ext wr p
            clear hw'
            go_wp2
            go_ret2
            exact HBad.out _ (hbj.trans (hb5.mono hbj.size)) (Hdead.out (by rw [Hnx.out, decide_eq_true (Hmk.out He.out)]; simp))
          · have he' : (y == x) = false := by simpa using he
            have He := Lib.hid he; clear he
            go_wp2
            refine wp_region_ext (by kernel_rfl) (by kernel_rfl) ?_
            repeat (go_big_quiet_step (fail))
            refine wpQuiet_nil ?_
            intro w5 hw'
            have hb5 : Below wr.heap.size wr w5 := by obtain ⟨p, rfl⟩ := hw'; exact below_ext wr p
            clear hw'
            go_wp2
            exact ⟨⟨j + 1, by omega, by go_num, Lib.hid (by rw [Hts.out, List.mem_append]; rintro (h | h); exact hnm.out h; exact He.out (List.mem_singleton.1 h).symm), hbj.trans (hb5.mono hbj.size)⟩, by simp [intOf]; omega⟩
        · have hj' : j = k := by omega
          subst hj'
          go_wp2
          exact ⟨⟨j + 1, by omega, by go_num, Lib.hid (by rw [Hnx.out, decide_eq_true (by omega : 0 ≤ x ∧ x < a.length), decide_eq_false hnm.out]; rfl), hbj⟩, by simp [intOf]; omega⟩
    · have hk' : k = is.length := by omega
      subst hk'
      have hall : okB a.length is = true := by have := hok.out; rwa [List.take_length] at this
      have Hall := Lib.hid hall
      clear hok hall HBad
      go_wp2_with (first
        | (go_at_call_of 20 (a1); refine (HTA.out _ hb).mono ?_; rintro e w2 ⟨v2, ys, rfl, htw, hys, hb2⟩; have hq2 := hb.trans (hb2.mono hlr); have hl2 := hq2.size; obtain ⟨a4, c4, e4⟩ := id (OwnX.shape htw.1); rw [show ys.length = a.length from (by have := congrArg List.length hys; simpa using this)] at e4; subst e4; have Htw := Lib.hid htw; have Hys := Lib.hid hys; have Hb2 := Lib.hid hb2.size; clear htw hys)
        | (go_at_call 20; refine (HTB.out _ hq2).mono ?_; rintro e w3 ⟨v3, zs, rfl, htw3, hzs, hb3⟩; have hq3 := hq2.trans (hb3.mono hl2); have hl3 := hq3.size; obtain ⟨a5, c5, e5⟩ := id (OwnX.shape htw3.1); rw [show zs.length = b.length from (by have := congrArg List.length hzs; simpa using this)] at e5; subst e5; have Hot := Lib.hid (twin_reads htw3 hzs Hsb.out); have Hb3 := Lib.hid hb3; clear htw3 hzs))
      obtain ⟨wq, rfl⟩ : ∃ wq, wq = wr := ⟨_, rfl⟩
      have hro := RepOut.start (b := b) Htw.out Hys.out Hb2.out Hb3.out
      have Hro := Lib.hid hro
      clear hro Htw Hys HTA HTB HF
      go_loopw [17] (fun i wr => ∃ k : Nat, k ≤ is.length ∧ i = .int .i64 k ∧ Hid (RepOut wq.heap.size w2.heap.size w3.heap.size w3 wr (.slice a4 a.length c4) a b (is.take k)) ∧ Below w.heap.size w wr) (fun i _ => is.length - (intOf i).toNat)
      case atStart => exact ⟨0, Nat.zero_le _, rfl, by rw [List.take_zero]; exact Hro, hq3⟩
      case round =>
        clear Hro hq3
        obtain ⟨k, hk, rfl, hro, hb⟩ := hrel
        by_cases hlt : k < is.length
        · obtain ⟨bz, offz, cz, rfl, -, hbz, hcz0, hdz⟩ := RSl.at1 HZ.out k hlt
          have hcz := (Same.of_below (S := Any) hb).cell trivial hcz0
          obtain ⟨rfl, hwz⟩ := hdz.open
          have hts : is.take (k + 1) = is.take k ++ [is[k]] := List.take_succ_eq_append_getElem hlt
          have hrg : 0 ≤ is[k] ∧ is[k] < a.length := by
            have := Hall.out
            simp only [okB, Bool.and_eq_true, List.all_eq_true, decide_eq_true_eq] at this
            exact this.1 _ (List.getElem_mem hlt)
          obtain ⟨x, hx⟩ : ∃ x, x = is[k] := ⟨_, rfl⟩
          rw [← hx] at hcz hcz0 hts hrg
          obtain ⟨n, rfl⟩ : ∃ n : Nat, x = n := ⟨x.toNat, by omega⟩
          have hn : n < a.length := by omega
          have hnb : n < b.length := by have := Hft.out.1; omega
          obtain ⟨g, y0, y1, rfl, hg1, hg2, hg3, hgc, hgd, hgf⟩ := hro.out.at hn
          obtain ⟨g5, off5, p5, q5, rfl, hg5, hoc, hod, how⟩ := other_at Hot.out hro.out.2.1 hnb
          have How := Lib.hid how; have Hts := Lib.hid hts
          clear how hts hx hdz hwz hcz0
          go_wp2
          go_still_tail 12, (by kernel_rfl)
          go_wp2
          refine ⟨⟨k + 1, by omega, by go_num, Lib.hid ?_, ?_⟩, by simp [intOf]; omega⟩
          · rw [Hts.out]
            exact hro.out.step rfl hn hnb How.out (fun j hj => rfl) (by simp [World.setCell])
          · exact ((Below.drew hb).setCell (p := ⟨g, n * 2, none⟩) (by simp; omega) _).setCell (p := ⟨g, n * 2 + 1, none⟩) (by simp; omega) _
        · have hk' : k = is.length := by omega
          subst hk'
          go_wp2
          go_ret2
          exact HGood.out _ _ _ Hall.out (by have := hro.out.done Hsa.out.1; rwa [List.take_length] at this) hlr hb
theorem canvassReplace (S T U : Nat → Prop) (u v z : Value) (a b : List Btc) (c kind : Int) (is : List Int) (w : World) (hx : RBtcs S w u a) (hy : RBtcs T w v b) (hzi : RInts U w z is) (hli : is.length ≤ 1000) (hsa : Small a) (hsb : Small b) :
    Calls Try.prog 49 #[u, v, .int .i64 c, .int .u8 kind, z] w (RepGives a b c kind is w) := by
  by_cases hf : fitI a b c kind = 0
  · exact canvassReplace_fit S T U u v z a b c kind is w hx hy hzi hli hsa hsb hf
  · exact canvassReplace_unfit S T u v z a b c kind is w hx hy hsa hsb hf
theorem refReplace (S T U : Nat → Prop) (u v z : Value) (a b : List Btc) (c kind : Int) (is : List Int) (w : World) (hx : RBtcs S w u a) (hy : RBtcs T w v b) (hzi : RInts U w z is) (hli : is.length ≤ 1000) (hsa : Small a) (hsb : Small b) :
    Calls Try.prog 50 #[u, v, .int .i64 c, .int .u8 kind, z] w (RepGives a b c kind is w) := by
  by_cases hf : fitI a b c kind = 0
  · exact refReplace_fit S T U u v z a b c kind is w hx hy hzi hli hsa hsb hf
  · exact refReplace_unfit S T u v z a b c kind is w hx hy hsa hsb hf
end Go.Proofs.Ytkjgddcjhikdgaa

/- What the law CanvassCompares answers. -/
namespace Go.Proofs.Ytkjgddcjhikdgaa
open Go Go.RowKit Go.Shelf

def CmpOpen (PL : List Place) (I : Int) (w : World) (e : Ending) (w' : World) : Prop :=
  ∃ v, e = .returned (.tuple #[v, .int .i64 I]) ∧ Own w.heap.size 111 2 dPlace w' v PL ∧ Below w.heap.size w w'
theorem CmpOpen.of {a b : List Btc} {c kind : Int} {PL : List Place} {I : Int} {w w' : World} {e : Ending} (hI : fitI a b c kind = I) (hP : (if fitI a b c kind = 0 then placesL a b else []) = PL) (h : CmpGives a b c kind w e w') : CmpOpen PL I w e w' := by
  subst hI; subst hP; exact h
def RepOpen (RL : List Btc) (J : Int) (w : World) (e : Ending) (w' : World) : Prop :=
  ∃ v, e = .returned (.tuple #[v, .int .i64 J]) ∧ WBtcs (From w.heap.size) w' v RL ∧ Below w.heap.size w w'
theorem RepOpen.of {a b : List Btc} {c kind : Int} {is : List Int} {RL : List Btc} {J : Int} {w w' : World} {e : Ending} (hJ : repI a b c kind is = J) (hR : repV a b c kind is = RL) (h : RepGives a b c kind is w e w') : RepOpen RL J w e w' := by
  subst hJ; subst hR; exact h
theorem samePlacesT (S T : Nat → Prop) (u v : Value) (xs : List Place) (w : World) (hx : RSl S 2 dPlace w u xs) (hy : RSl T 2 dPlace w v xs) :
    Calls Try.prog 51 #[u, v] w fun e w' => e = .returned (.bool true) ∧ Below w.heap.size w w' := by
  have := samePlaces S T u v xs xs w hx hy
  rwa [eqL_refl eqPlace_refl] at this
set_option maxHeartbeats 1000000 in
theorem compares_great (S : Nat → Prop) (u v z : Value) (a b : List Btc) (is : List Int) (c kind : Int) (w : World) (h : RBtcs S w u a) (hv : RBtcs S w v b) (hz : RInts S w z is) (hg : (great a || great b || decide (100 < is.length)) = true) :
    Calls Try.prog 7 #[u, v, .int .i64 c, .int .u8 kind, z] w fun e w' => e = .returned (.bool true) ∧ Below w.heap.size w w' := by
  have hG := great26 S u a w h
  have hG2 := fun W hW => great26 S v b W (hv.same (.of_below (hW : Below w.heap.size w W)))
  obtain ⟨a1, cap1, rfl, -, -⟩ := RSl.shape h
  obtain ⟨a2, cap2, rfl, -, -⟩ := RSl.shape hv
  obtain ⟨a3, cap3, rfl, -, hz2⟩ := RSl.shape hz
  cases hg1 : great a
  · rw [hg1] at hG hg
    cases hg2 : great b
    · rw [hg2] at hG2 hg
      have hl : (is.length : Int) > 100 := by simp at hg; omega
      have HG := Lib.hid hG
      have HG2 := Lib.hid hG2
      clear hG hG2 hg hg1 hg2 h hv hz
      go_enter Try.func7, Try.ntmps7
      go_wp2_with (first | ((with_reducible refine HG.out.mono ?_); rintro e w1 ⟨rfl, hb1⟩) | ((with_reducible refine (HG2.out _ hb1).mono ?_); rintro e w2 ⟨rfl, hb2⟩))
      go_ret
      exact ⟨rfl, hb1.trans (hb2.mono hb1.size)⟩
    · rw [hg2] at hG2
      have HG := Lib.hid hG
      have HG2 := Lib.hid hG2
      clear hG hG2 hg hg1 hg2 h hv hz
      go_enter Try.func7, Try.ntmps7
      go_wp2_with (first | ((with_reducible refine HG.out.mono ?_); rintro e w1 ⟨rfl, hb1⟩) | ((with_reducible refine (HG2.out _ hb1).mono ?_); rintro e w2 ⟨rfl, hb2⟩))
      go_ret
      exact ⟨rfl, hb1.trans (hb2.mono hb1.size)⟩
  · rw [hg1] at hG
    have HG := Lib.hid hG
    clear hG hG2 hg hg1 h hv hz
    go_enter Try.func7, Try.ntmps7
    go_wp2_with ((with_reducible refine HG.out.mono ?_); rintro e w1 ⟨rfl, hb1⟩)
    go_ret
    exact ⟨rfl, hb1⟩
set_option maxHeartbeats 4000000 in
set_option maxRecDepth 100000 in
theorem compares_small (S : Nat → Prop) (u v z : Value) (a b : List Btc) (is : List Int) (c kind : Int) (w : World) (h : RBtcs S w u a) (hv : RBtcs S w v b) (hz : RInts S w z is) (hg1 : great a = false) (hg2 : great b = false) (hli : is.length ≤ 100) :
    Calls Try.prog 7 #[u, v, .int .i64 c, .int .u8 kind, z] w fun e w' => e = .returned (.bool true) ∧ Below w.heap.size w w' := by
  obtain ⟨I, hI⟩ : ∃ I, fitI a b c kind = I := ⟨_, rfl⟩
  obtain ⟨PL, hPL⟩ : ∃ PL, (if fitI a b c kind = 0 then placesL a b else []) = PL := ⟨_, rfl⟩
  obtain ⟨J, hJ⟩ : ∃ J, repI a b c kind is = J := ⟨_, rfl⟩
  obtain ⟨RL, hRL⟩ : ∃ RL, repV a b c kind is = RL := ⟨_, rfl⟩
  obtain ⟨xs, hxs⟩ : ∃ xs, shape RL = xs := ⟨_, rfl⟩
  have hxl : RL.length = xs.length := by rw [← hxs]; simp [shape]
  have Hxs := Lib.hid hxs; have Hxl := Lib.hid hxl
  have hsa := small_of hg1
  have hsb := small_of hg2
  have hpl : PL.length ≤ 140737488355328 := by
    rw [← hPL]
    split
    · have h1 := difAll_len (b := b) hsa a.length (Nat.le_refl _)
      have h2 := hsa.1
      have : (placesL a b).length ≤ a.length * 1000000 := h1
      omega
    · simp
  have hG := great26 S u a w h
  have hG2 := fun W hW => great26 S v b W (hv.same (.of_below (hW : Below w.heap.size w W)))
  rw [hg1] at hG
  rw [hg2] at hG2
  have hA := fun W p q (hp : RBtcs Any W p a) (hq : RBtcs Any W q b) => (canvassCompare Any Any p q a b c kind W hp hq hsa hsb.1).mono fun _ _ => CmpOpen.of hI hPL
  have hB := fun W p q (hp : RBtcs S W p a) (hq : RBtcs S W q b) => (refCompare S S p q a b c kind W hp hq hsa hsb.1).mono fun _ _ => CmpOpen.of hI hPL
  have hC := fun W p q r (hp : RBtcs Any W p a) (hq : RBtcs Any W q b) (hr : RInts Any W r is) => (canvassReplace Any Any Any p q r a b c kind is W hp hq hr (by omega) hsa hsb).mono fun _ _ => RepOpen.of hJ hRL
  have hD := fun W p q r (hp : RBtcs S W p a) (hq : RBtcs S W q b) (hr : RInts S W r is) => (refReplace S S S p q r a b c kind is W hp hq hr (by omega) hsa hsb).mono fun _ _ => RepOpen.of hJ hRL
  obtain ⟨a1, cap1, rfl, -, -⟩ := RSl.shape h
  obtain ⟨a2, cap2, rfl, -, -⟩ := RSl.shape hv
  obtain ⟨a3, cap3, rfl, -, hz2⟩ := RSl.shape hz
  have HG := Lib.hid hG; have HG2 := Lib.hid hG2; have HA := Lib.hid hA; have HB := Lib.hid hB; have HC := Lib.hid hC; have HD := Lib.hid hD
  have H := Lib.hid h; have Hv := Lib.hid hv; have Hz := Lib.hid hz; have Hsa := Lib.hid hsa; have Hsb := Lib.hid hsb; have Hpl := Lib.hid hpl
  clear hG hG2 hA hB hC hD h hv hz hsa hsb hg1 hg2 hI hPL hJ hRL hpl hxs hxl
  go_enter Try.func7, Try.ntmps7
  go_upto_region 4 with (first
    | ((with_reducible refine HG.out.mono ?_); rintro e w1 ⟨rfl, hb1⟩)
    | ((with_reducible refine (HG2.out _ hb1).mono ?_); rintro e w2 ⟨rfl, hb2⟩; have hq2 : Below w.heap.size w w2 := hb1.trans (hb2.mono hb1.size))
    | (go_at_call_of 20 (a1); refine (twinRef S _ a _ (H.out.same (.of_below hq2)) Hsa.out).mono ?_; rintro e w3 ⟨v3, ys, rfl, htw, hys, hb3⟩; have hq3 := hq2.trans (hb3.mono hq2.size); have hr3 := RBtcs.mono (T := Any) (fun _ _ => trivial) (twin_reads htw hys Hsa.out).toR; obtain ⟨a4, c4, rfl, -, -⟩ := id (RSl.shape hr3); have hl3 := hq3.size; have HR3 := Lib.hid hr3; clear htw hys hr3)
    | (go_at_call 20; refine (twinRef S _ b _ (Hv.out.same (.of_below hq3)) Hsb.out).mono ?_; rintro e w4 ⟨v4, zs, rfl, htw4, hzs, hb4⟩; have hq4 := hq3.trans (hb4.mono hl3); have hr4 := RBtcs.mono (T := Any) (fun _ _ => trivial) (twin_reads htw4 hzs Hsb.out).toR; obtain ⟨a5, c5, rfl, -, -⟩ := id (RSl.shape hr4); have hl4 := hq4.size; have HR4 := Lib.hid hr4; clear htw4 hzs hr4)
    | (at_builtin; go_must (refine wpList_app _ Try.infoInt rfl rfl Try.underlying23 ⟨rfl, by omega, by omega⟩ (dInt.one _) (dInt.stable (fun _ => False) _) w4.heap.size (Own.fresh _ _ _ _ 0 (box_new w4 (.cells #[] 3)) (Nat.le_refl _) (by simp [maxLen]) rfl) rfl (RInts.same (.of_below (hq4.alloc hl4 _)) Hz.out) rfl (by simp; omega) (by simp) ?_); intro a6 c6 w5 hgr hat ho; have ho5 := ho (fun _ _ hh => hh.elim); simp only [List.nil_append] at ho5; have hb5 : Below w4.heap.size w4 w5 := (below_new _ _).grown hgr (by simp) (by simp [Value.ownBlock]); have Ho5 := Lib.hid ho5; have Hgr := Lib.hid hgr; have Hat := Lib.hid hat; clear ho ho5 hgr hat))
  have hq5 : Below w.heap.size w w5 := hq4.trans (hb5.mono hl4)
  have hl5 := hb5.size
  have hl43 : w3.heap.size ≤ w4.heap.size := hb4.size
  have hR : ∀ W, Below w5.heap.size w5 W → RBtcs Any W (.slice a4 a.length c4) a := fun W hW => ((HR3.out.same (.of_below hb4)).same (.of_below hb5)).same (.of_below hW)
  have hO : ∀ W, Below w5.heap.size w5 W → RBtcs Any W (.slice a5 b.length c5) b := fun W hW => (HR4.out.same (.of_below hb5)).same (.of_below hW)
  have hLa : ∀ W, Below w5.heap.size w5 W → RBtcs S W (.slice a1 a.length cap1) a := fun W hW => (H.out.same (.of_below hq5)).same (.of_below hW)
  have hLb : ∀ W, Below w5.heap.size w5 W → RBtcs S W (.slice a2 b.length cap2) b := fun W hW => (Hv.out.same (.of_below hq5)).same (.of_below hW)
  have hLz : ∀ W, Below w5.heap.size w5 W → RInts S W (.slice a3 is.length cap3) is := fun W hW => RInts.same (.of_below hW) (RInts.same (.of_below hq5) Hz.out)
  have hAz : ∀ W, Below w5.heap.size w5 W → RInts Any W (.slice a6 is.length c6) is := fun W hW => RInts.same (.of_below hW) (RInts.mono (fun _ _ => trivial) (Own.rsl Ho5.out (by omega)))
  have HRR := Lib.hid hR; have HOO := Lib.hid hO; have HLa := Lib.hid hLa; have HLb := Lib.hid hLb; have HLz := Lib.hid hLz; have HAz := Lib.hid hAz
  clear hR hO hLa hLb hLz hAz HG HG2 Ho5 Hgr Hat
  go_upto_block 0 with (first
    | (go_at_call 47; refine (HA.out _ _ _ (HRR.out _ (Below.refl _ _)) (HOO.out _ (Below.refl _ _))).mono ?_; rintro e w6 ⟨v6, rfl, ho6, hb6⟩; obtain ⟨ax6, cx6, rfl⟩ := id (Own.shape ho6); have hl6 := hb6.size; have Ho6 := Lib.hid ho6; clear ho6)
    | (go_at_call 48; refine (HB.out _ _ _ (HLa.out _ hb6) (HLb.out _ hb6)).mono ?_; rintro e w7 ⟨v7, rfl, ho7, hb7⟩; obtain ⟨ax7, cx7, rfl⟩ := id (Own.shape ho7); have hp7 := hb6.trans (hb7.mono hl6); have hl7 := hp7.size; have Ho7 := Lib.hid ho7; clear ho7)
    | (go_at_call 49; refine (HC.out _ _ _ _ (HRR.out _ hp7) (HOO.out _ hp7) (HAz.out _ hp7)).mono ?_; rintro e w8 ⟨v8, rfl, hr8, hb8⟩; obtain ⟨ax8, cx8, e8, -, -⟩ := id (RSl.shape hr8.1); rw [Hxl.out] at e8; subst e8; have hl8 := hb8.size; have hp8 := hp7.trans (hb8.mono hl7); have Hr8 := Lib.hid hr8; clear hr8)
    | (go_at_call 50; refine (HD.out _ _ _ _ (HLa.out _ hp8) (HLb.out _ hp8) (HLz.out _ hp8)).mono ?_; rintro e w9 ⟨v9, rfl, hr9, hb9⟩; obtain ⟨ax9, cx9, rfl, -, -⟩ := id (RSl.shape hr9.1); have hl9 := hb9.size; have Hr9 := Lib.hid hr9; clear hr9)
    | (go_at_call 51; refine (samePlacesT _ _ _ _ _ _ (RSl.same (dPlace.stable _) (.of_below ((hb7.trans (hb8.mono hb7.size)).trans (hb9.mono (by have := hb7.size; omega)))) (Own.rsl Ho6.out Hpl.out)) (RSl.same (dPlace.stable _) (.of_below (hb8.trans (hb9.mono hl8))) (Own.rsl Ho7.out Hpl.out))).mono ?_; rintro e w10 ⟨rfl, hb10⟩; have hl10 := hb10.size)
    | (go_at_call 24; refine (sameT _ _ _ _ _ _ (Hr8.out.same (.of_below (hb9.trans (hb10.mono hl9)))).toR (Hr9.out.same (.of_below hb10)).toR).mono ?_; rintro e w11 ⟨rfl, hb11⟩; have hl11 := hb11.size))
  have h8 : Below w8.heap.size w8 w11 := (hb9.trans (hb10.mono hl9)).trans (hb11.mono (by omega))
  have h7 : Below w7.heap.size w7 w11 := hb8.trans (h8.mono hl8)
  have hsh := ShC.of (fun _ hh => hh) (Hr8.out.same (.of_below h8))
  rw [Hxs.out] at hsh
  obtain ⟨a8', c8', e8', -, hn8, -⟩ := id hsh
  clear HA HB HC HD Ho6 Ho7 Hr8 Hr9 h8
  go_wp2
  go_loopw [23] (fun i wr => ∃ k : Nat, k ≤ xs.length ∧ i = .int .i64 k ∧ ShC w7.heap.size wr (.slice ax8 xs.length cx8) xs ∧ Below w7.heap.size w11 wr) (fun i _ => xs.length - (intOf i).toNat)
  case atStart => exact ⟨0, Nat.zero_le _, rfl, hsh, Below.refl _ _⟩
  case round =>
    clear hsh
    obtain ⟨k, hk, rfl, hs, hb⟩ := hrel
    by_cases hlt : k < xs.length
    · go_wp2
      obtain ⟨wo, rfl⟩ : ∃ wo, wo = wr := ⟨_, rfl⟩
      go_loopw [24] (fun i wr => ∃ j : Nat, j ≤ xs[k].length ∧ i = .int .i64 j ∧ ShC w7.heap.size wr (.slice ax8 xs.length cx8) xs ∧ Below w7.heap.size w11 wr) (fun i _ => xs[k].length - (intOf i).toNat)
      case atStart => exact ⟨0, Nat.zero_le _, rfl, hs, hb⟩
      case round =>
        obtain ⟨j, hj, rfl, hs, hb⟩ := hrel
        obtain ⟨a0, cap0, e0, -, -, hx⟩ := id hs
        simp only [Value.slice.injEq] at e0
        obtain ⟨rfl, -, -⟩ := e0
        obtain ⟨b', off, i0, d0, rfl, hb0, hsf, hc, hd, hB'⟩ := hx k hlt
        obtain ⟨a1', cap1', rfl, hB1, hB2, hx1⟩ := id hB'
        clear hx
        by_cases hjl : j < xs[k].length
        · clear hx1
          go_wp2
          obtain ⟨wp, rfl⟩ : ∃ wp, wp = wr := ⟨_, rfl⟩
          go_loopw [25] (fun i wr => ∃ m : Nat, m ≤ xs[k][j] ∧ i = .int .i64 m ∧ ShC w7.heap.size wr (.slice (some ⟨b', off, none⟩) xs.length cx8) xs ∧ Below w7.heap.size w11 wr) (fun i _ => xs[k][j] - (intOf i).toNat)
          case atStart => exact ⟨0, Nat.zero_le _, rfl, hs, hb⟩
          case round =>
            clear hc hd hsf hB' hs hb
            obtain ⟨m, hm, rfl, hs, hb⟩ := hrel
            obtain ⟨a0, cap0, e0, -, -, hx⟩ := id hs
            simp only [Value.slice.injEq] at e0
            obtain ⟨rfl, -, -⟩ := e0
            obtain ⟨b'', off', i0, d0, e1, hb0, hsf, hc, hd, hB'⟩ := hx k hlt
            simp only [Option.some.injEq, Addr.mk.injEq, and_true] at e1
            obtain ⟨rfl, rfl⟩ := e1
            obtain ⟨a1', cap1', rfl, hB1, hB2, hx1⟩ := id hB'
            obtain ⟨b2', off2, i2, d2, rfl, hb2', hsf2, hc2, hd2, hI2⟩ := hx1 j hjl
            obtain ⟨a2', cap2', rfl, hI1, hI3, hx2⟩ := id hI2
            clear hx hx1
            by_cases hml : m < xs[k][j]
            · obtain ⟨b3, off3, i3, rfl, hb3', hsf3, hc3⟩ := hx2 m hml
              have hf3 := hsf3.frozen (off3 + m)
              clear hx2
              go_wp2
              exact ⟨⟨m + 1, by omega, by go_num, hs.kin (Kin.setCell hc3 (.inl ⟨_, _, _, rfl, rfl⟩)), hb.setCell (p := ⟨b3, off3 + m, none⟩) hb3' _⟩, by simp [intOf]; omega⟩
            · clear hx2
              go_wp2
              exact ⟨⟨j + 1, by omega, by go_num, hs, hb⟩, by simp [intOf]; omega⟩
        · clear hx1
          go_wp2
          exact ⟨⟨k + 1, by omega, by go_num, hs, hb⟩, by simp [intOf]; omega⟩
    · have hpr : Below w5.heap.size w5 wr := (hp7.trans (h7.mono hl7)).trans (hb.mono hl7)
      go_wp2_with (first
        | (go_at_call_of 24 (a4); refine (sameT _ _ _ _ _ _ (HRR.out _ hpr) (HLa.out _ hpr)).mono ?_; rintro e w12 ⟨rfl, hb12⟩; have hp12 := hpr.trans (hb12.mono hpr.size))
        | (go_at_call 24; refine (sameT _ _ _ _ _ _ (HOO.out _ hp12) (HLb.out _ hp12)).mono ?_; rintro e w13 ⟨rfl, hb13⟩))
      go_ret
      exact ⟨rfl, hq5.trans ((hp12.trans (hb13.mono hp12.size)).mono hq5.size)⟩
theorem law_compares (u v z : Value) (a b : List Btc) (c kind : Int) (is : List Int) (w : World) (h : RBtcs Any w u a) (hv : RBtcs Any w v b) (_ : (Lit.int .i64 c).wf = true) (_ : (Lit.int .u8 kind).wf = true) (hz : RInts Any w z is) :
    Calls Try.prog 7 #[u, v, .int .i64 c, .int .u8 kind, z] w fun e w' => e = .returned (.bool true) ∧ Below w.heap.size w w' := by
  cases hg : (great a || great b || decide (100 < is.length))
  · simp only [Bool.or_eq_false_iff, decide_eq_false_iff_not] at hg
    exact compares_small Any u v z a b is c kind w h hv hz hg.1.1 hg.1.2 (by omega)
  · exact compares_great Any u v z a b is c kind w h hv hz hg
end Go.Proofs.Ytkjgddcjhikdgaa

/- The walk of the law CanvassSame. -/
namespace Go.Proofs.Ytkjgddcjhikdgaa
open Go Go.RowKit Go.Shelf

set_option maxHeartbeats 1000000 in
theorem csame_great (S : Nat → Prop) (u v : Value) (a b : List Btc) (c kind : Int) (w : World) (h : RBtcs S w u a) (hv : RBtcs S w v b) (hg : (great a || great b) = true) :
    Calls Try.prog 12 #[u, v, .int .i64 c, .int .u8 kind] w fun e w' => e = .returned (.bool true) ∧ Below w.heap.size w w' := by
  have hG := fun W hW => great26 S u a W (h.same (.of_below (hW : Below w.heap.size w W)))
  have hG2 := fun W hW => great26 S v b W (hv.same (.of_below (hW : Below w.heap.size w W)))
  obtain ⟨a1, cap1, rfl, -, -⟩ := RSl.shape h
  obtain ⟨a2, cap2, rfl, -, -⟩ := RSl.shape hv
  cases hg1 : great a
  · rw [hg1] at hG hg
    have hg2 : great b = true := by simpa using hg
    rw [hg2] at hG2
    have HG := Lib.hid hG
    have HG2 := Lib.hid hG2
    have flag := Lib.hid True.intro
    clear hG hG2 hg hg1 hg2 h hv
    go_enter Try.func12, Try.ntmps12
    go_wp2_with (first
      | (go_at_call 55; refine (alive27 _).mono ?_; rintro r w0 ⟨rfl, hb0⟩)
      | (go_at_call 18; clear flag; refine (HG.out _ hb0).mono ?_; rintro e w1 ⟨rfl, hb1⟩; have hq1 := hb0.trans (hb1.mono hb0.size))
      | (go_at_call 18; refine (HG2.out _ hq1).mono ?_; rintro e w2 ⟨rfl, hb2⟩))
    go_ret
    exact ⟨rfl, hq1.trans (hb2.mono hq1.size)⟩
  · rw [hg1] at hG
    have HG := Lib.hid hG
    clear hG hG2 hg hg1 h hv
    go_enter Try.func12, Try.ntmps12
    go_wp2_with (first
      | (go_at_call 55; refine (alive27 _).mono ?_; rintro r w0 ⟨rfl, hb0⟩)
      | (go_at_call 18; refine (HG.out _ hb0).mono ?_; rintro e w1 ⟨rfl, hb1⟩))
    go_ret
    exact ⟨rfl, hb0.trans (hb1.mono hb0.size)⟩
set_option maxHeartbeats 4000000 in
set_option maxRecDepth 100000 in
theorem csame_small (S : Nat → Prop) (u v : Value) (a b : List Btc) (c kind : Int) (w : World) (h : RBtcs S w u a) (hv : RBtcs S w v b) (hg1 : great a = false) (hg2 : great b = false) :
    Calls Try.prog 12 #[u, v, .int .i64 c, .int .u8 kind] w fun e w' => e = .returned (.bool true) ∧ Below w.heap.size w w' := by
  have hsa := small_of hg1
  have hsb := small_of hg2
  obtain ⟨I, hI⟩ : ∃ I, fitI a b c kind = I := ⟨_, rfl⟩
  obtain ⟨PL, hPL⟩ : ∃ PL, (if fitI a b c kind = 0 then placesL a b else []) = PL := ⟨_, rfl⟩
  obtain ⟨J, hJ⟩ : ∃ J, fitI b a c kind = J := ⟨_, rfl⟩
  have hQL : (if fitI b a c kind = 0 then placesL b a else []) = PL := by
    rw [← hPL]
    by_cases h0 : fitI a b c kind = 0
    · rw [if_pos h0, if_pos (fitI_comm.1 h0), places_comm (fitted h0).1]
    · rw [if_neg h0, if_neg (fun e => h0 (fitI_comm.2 e))]
  obtain ⟨K, hK⟩ : ∃ K, fitI a a c kind = K := ⟨_, rfl⟩
  have hZL : (if fitI a a c kind = 0 then placesL a a else []) = [] := by rw [places_self]; split <;> rfl
  obtain ⟨q, hq⟩ : ∃ q, eqL eqBtc a b = q := ⟨_, rfl⟩
  have hIJ : I = 0 ↔ J = 0 := by rw [← hI, ← hJ]; exact fitI_comm
  have hnil : I = 0 → ((PL.length : Int) == 0) = q := by
    intro h0
    rw [← hI] at h0
    rw [if_pos h0] at hPL
    have := places_nil h0
    rw [hPL, hq] at this
    rw [Bool.eq_iff_iff, ← this]
    simp
  have hn0 : I ≠ 0 → PL = [] := by
    intro h0
    rw [← hI] at h0
    rw [if_neg h0] at hPL
    exact hPL.symm
  have hpl : PL.length ≤ 140737488355328 := by
    rw [← hPL]
    split
    · have h1 := difAll_len (b := b) hsa a.length (Nat.le_refl _)
      have h2 := hsa.1
      have : (placesL a b).length ≤ a.length * 1000000 := h1
      omega
    · simp
  have hG := fun W hW => great26 S u a W (h.same (.of_below (hW : Below w.heap.size w W)))
  have hG2 := fun W hW => great26 S v b W (hv.same (.of_below (hW : Below w.heap.size w W)))
  rw [hg1] at hG
  rw [hg2] at hG2
  have hA := fun W (hW : Below w.heap.size w W) => (canvassCompare S S u v a b c kind W (h.same (.of_below hW)) (hv.same (.of_below hW)) hsa hsb.1).mono fun _ _ => CmpOpen.of hI hPL
  have hB := fun W (hW : Below w.heap.size w W) => (canvassCompare S S v u b a c kind W (hv.same (.of_below hW)) (h.same (.of_below hW)) hsb hsa.1).mono fun _ _ => CmpOpen.of hJ hQL
  have hC := fun W (hW : Below w.heap.size w W) => (canvassCompare S S u u a a c kind W (h.same (.of_below hW)) (h.same (.of_below hW)) hsa hsa.1).mono fun _ _ => CmpOpen.of hK hZL
  have hD := fun W (hW : Below w.heap.size w W) => recordSame S S u v a b W (h.same (.of_below hW)) (hv.same (.of_below hW))
  rw [hq] at hD
  obtain ⟨a1, cap1, rfl, -, -⟩ := RSl.shape h
  obtain ⟨a2, cap2, rfl, -, -⟩ := RSl.shape hv
  have HG := Lib.hid hG; have HG2 := Lib.hid hG2; have HA := Lib.hid hA; have HB := Lib.hid hB; have HC := Lib.hid hC; have HD := Lib.hid hD; have Hpl := Lib.hid hpl
  have flagA := Lib.hid True.intro; have flagB := Lib.hid True.intro; have flagC := Lib.hid True.intro
  clear hG hG2 hA hB hC hD h hv hsa hsb hg1 hg2 hI hPL hJ hQL hK hZL hq hpl
  have hways : (I = 0 ∧ J = 0 ∧ ((K == 0) = true ∨ (K == 0) = false) ∧ ((PL.length : Int) == 0) = q) ∨ ((I == 0) = false ∧ (J == 0) = false ∧ ((K == 0) = true ∨ (K == 0) = false) ∧ PL = []) := by
    have hKK : (K == 0) = true ∨ (K == 0) = false := by cases K == 0 <;> simp
    by_cases h0 : I = 0
    · exact .inl ⟨h0, hIJ.1 h0, hKK, hnil h0⟩
    · exact .inr ⟨by simpa using h0, by simpa using fun e => h0 (hIJ.2 e), hKK, hn0 h0⟩
  clear hIJ hnil hn0
  rcases hways with ⟨rfl, rfl, hK | hK, hP⟩ | ⟨hI, hJ, hK | hK, rfl⟩
  all_goals try cases q
  all_goals
    go_enter Try.func12, Try.ntmps12
    go_wp2_with (first
      | (go_at_call 55; refine (alive27 _).mono ?_; rintro r w0 ⟨rfl, hb0⟩; have hz0 := hb0.size)
      | (go_at_call 18; clear flagA; refine (HG.out _ hb0).mono ?_; rintro e w1 ⟨rfl, hb1⟩; have hq1 := hb0.trans (hb1.mono hz0); have hz1 := hq1.size)
      | (go_at_call 18; refine (HG2.out _ hq1).mono ?_; rintro e w2 ⟨rfl, hb2⟩; have hq2 := hq1.trans (hb2.mono hz1); have hz2 := hq2.size)
      | (go_at_call 47; clear flagB; refine (HA.out _ hq2).mono ?_; rintro e w3 ⟨v3, rfl, ho3, hb3⟩; obtain ⟨ax3, cx3, rfl⟩ := id (Own.shape ho3); have hq3 := hq2.trans (hb3.mono hz2); have hz3 := hq3.size; have hy3 := hb3.size; have Ho3 := Lib.hid ho3; clear ho3)
      | (go_at_call 47; clear flagC; refine (HB.out _ hq3).mono ?_; rintro e w4 ⟨v4, rfl, ho4, hb4⟩; obtain ⟨ax4, cx4, rfl⟩ := id (Own.shape ho4); have hq4 := hq3.trans (hb4.mono hz3); have hz4 := hq4.size; have hy4 := hb4.size; have Ho4 := Lib.hid ho4; clear ho4)
      | (go_at_call 47; refine (HC.out _ hq4).mono ?_; rintro e w5 ⟨v5, rfl, ho5, hb5⟩; obtain ⟨ax5, cx5, rfl⟩ := id (Own.shape ho5); have hq5 := hq4.trans (hb5.mono hz4); have hz5 := hq5.size; clear ho5)
      | (go_at_call 51; refine (samePlacesT _ _ _ _ _ _ (RSl.same (dPlace.stable _) (.of_below (hb4.trans (hb5.mono hy4))) (Own.rsl Ho3.out Hpl.out)) (RSl.same (dPlace.stable _) (.of_below hb5) (Own.rsl Ho4.out Hpl.out))).mono ?_; rintro e w6 ⟨rfl, hb6⟩; have hq6 := hq5.trans (hb6.mono hz5); have hz6 := hq6.size)
      | (go_at_call 44; refine (HD.out _ hq6).mono ?_; rintro e w7 ⟨rfl, hb7⟩; have hq7 := hq6.trans (hb7.mono hz6)))
    go_ret
    first | exact ⟨rfl, hq7⟩ | exact ⟨rfl, hq5⟩
theorem law_csame (u v : Value) (a b : List Btc) (c kind : Int) (w : World) (h : RBtcs Any w u a) (hv : RBtcs Any w v b) (_ : (Lit.int .i64 c).wf = true) (_ : (Lit.int .u8 kind).wf = true) :
    Calls Try.prog 12 #[u, v, .int .i64 c, .int .u8 kind] w fun e w' => e = .returned (.bool true) ∧ Below w.heap.size w w' := by
  cases hg : (great a || great b)
  · simp only [Bool.or_eq_false_iff] at hg
    exact csame_small Any u v a b c kind w h hv hg.1 hg.2
  · exact csame_great Any u v a b c kind w h hv hg
end Go.Proofs.Ytkjgddcjhikdgaa

namespace Go.Proofs.Ytkjgddcjhikdgaa
open Go Go.RowKit Go.ChangeShapes Go.WideShapes Go.ChangeAt

set_option maxRecDepth 100000 in
theorem canvassSame_lifted (os : Os) (started : os.Started) (H : Type) (enc : TypeId × Value → H) :
    ReturnsInHanded {} Try.checked os 12 .any (Rows.canvassSameSpec.pre6 enc Try.prog Try.f12 Rows.canvassSameRow.domain false) (Rows.canvassSameSpec.post enc Try.prog Try.f12 false true false false) := by
  refine returnsInHanded_of_change_sized (C := Try.checked) Try.own started (by kernel_rfl) Try.func12
    (ChangeSpec.witness6 (enc := enc) (C := Try.checked) false ⟨#[], #[.slice none 0 0, .slice none 0 0, .int .i64 0, .int .u8 0], []⟩ 8 (by kernel_rfl) (by kernel_rfl) (by kernel_rfl) (by kernel_rfl)) ?_
  intro W base args ds gs before hval0 hW hcnd hsz0 _
  have hval : ∀ (j : Nat) t v, Try.f12.params[j]? = some t → args[j]? = some v → Value.okWide Try.prog W .any base t v := hval0
  have hsz : (DataW.weightsEach Try.prog (Try.f12.params.toList ++ Rows.canvassSameSpec.plain.varTypes Try.prog) (ds ++ gs)).all (· ≤ reachBytes) = true := hsz0
  have hW' := hW
  obtain ⟨p, q, hA0, hV, rfl, hfz, hnd⟩ := hW
  have hA : DataW.TrodAll enc Try.prog W 0 (fun _ => true) true Try.f12.params.toList args.toList ds p := hA0
  rw [Try.params12] at hA hval hsz
  obtain ⟨v0, vs0, d0, ds0, p0, q0, hargs, rfl, rfl, h0, r0⟩ := trodAll_cons hA
  obtain ⟨v1, vs1, d1, ds1, p1, q1, rfl, rfl, rfl, h1, r1⟩ := trodAll_cons r0
  obtain ⟨v2, vs2, d2, ds2, p2, q2, rfl, rfl, rfl, h2, r2⟩ := trodAll_cons r1
  obtain ⟨v3, vs3, d3, ds3, p3, q3, rfl, rfl, rfl, h3, r3⟩ := trodAll_cons r2
  obtain ⟨rfl, rfl, rfl⟩ := trodAll_nil r3
  obtain rfl : args = #[v0, v1, v2, v3] := by cases args; simp_all
  obtain ⟨rfl, rfl⟩ := trodVars_none hV
  have k0 := h0
  have k1 := h1
  have k2 := h2
  have k3 := h3
  have lt0 : ∀ x ∈ p0, x.block < W.heap.size := by obtain ⟨m, hm⟩ := k0; exact DataW.trod_lt m _ _ _ hm
  have lt1 : ∀ x ∈ p1, x.block < W.heap.size := by obtain ⟨m, hm⟩ := k1; exact DataW.trod_lt m _ _ _ hm
  have lt2 : ∀ x ∈ p2, x.block < W.heap.size := by obtain ⟨m, hm⟩ := k2; exact DataW.trod_lt m _ _ _ hm
  have lt3 : ∀ x ∈ p3, x.block < W.heap.size := by obtain ⟨m, hm⟩ := k3; exact DataW.trod_lt m _ _ _ hm
  obtain ⟨x0, y0⟩ := arg_btcs (hval 0 _ v0 rfl rfl) h0 (weights_at hsz 0 rfl rfl)
  obtain ⟨x1, y1⟩ := arg_btcs (hval 1 _ v1 rfl rfl) h1 (weights_at hsz 1 rfl rfl)
  obtain ⟨x2, rfl, e2, e2', wf2⟩ := open_int Try.underlying3 (hval 2 _ v2 rfl rfl) h2
  obtain ⟨x3, rfl, e3, e3', wf3⟩ := open_int Try.underlying5 (hval 3 _ v3 rfl rfl) h3
  clear hA0 hval0
  refine (law_csame v0 v1 x0 x1 x2 x3 W y0 y1 wf2 wf3).mono fun e W' ⟨he, bel⟩ => ?_
  subst he
  exact ⟨_, rfl, _, _, _, [], _, [], hW', trodAll_mk1 (shut_bool Try.underlying4 _), (trodAll_cons_mk (Below.trod Try.laidOut (by kernel_rfl) (of_decide_eq_true (by kernel_rfl)) k0 bel lt0) (trodAll_cons_mk (Below.trod Try.laidOut (by kernel_rfl) (of_decide_eq_true (by kernel_rfl)) k1 bel lt1) (trodAll_cons_mk (Below.trod Try.laidOut (by kernel_rfl) (of_decide_eq_true (by kernel_rfl)) k2 bel lt2) (trodAll_cons_mk (Below.trod Try.laidOut (by kernel_rfl) (of_decide_eq_true (by kernel_rfl)) k3 bel lt3) trodAll_mk0)))), rfl, bel.frame _, fun h => by cases h⟩

theorem canvassSame_named : Try.prog.funcNamed Rows.canvassSameRow.func = some 12 := by kernel_rfl
theorem canvassSame_facts : joinedFacts Try.prog 12 Try.f12 Rows.canvassSameSpec Rows.canvassSameRow = true := by kernel_rfl
theorem canvassSame_inst : Try.f12.isInstance Try.prog Rows.canvassSameRow.origin Rows.canvassSameRow.targs := of_decide_eq_true (by kernel_rfl)
theorem canvassSame_wrap : Try.f12.isWrapper Try.prog Rows.canvassSameRow.wrapper Rows.canvassSameRow.mainSum := by
  unfold Func.isWrapper
  rw [if_neg (of_decide_eq_false (by kernel_rfl))]
  exact ⟨rfl, rfl⟩
theorem canvassSame_holds : Rows.CanvassSameSaid :=
  OpenClaim.holds_of_wide 12 Try.f12 rfl rfl rfl rfl rfl rfl rfl ⟨rfl, rfl, rfl, rfl, rfl⟩ rfl rfl rfl rfl rfl canvassSame_named Try.func12 canvassSame_facts
    canvassSame_inst canvassSame_wrap
    (fun os started H enc _ => canvassSame_lifted os started H enc)
#print axioms canvassSame_holds
end Go.Proofs.Ytkjgddcjhikdgaa
