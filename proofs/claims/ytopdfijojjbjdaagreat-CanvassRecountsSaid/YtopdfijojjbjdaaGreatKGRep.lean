/- Texts of one claim, put together: Repl, Rep, Rep2. -/
import Derived.Test.YtopdfijojjbjdaaGreatKGCan
import Derived.StillTailTactics

/- Replacing batches by those of another count: the list, and the row of the call's own in which it is done. -/
namespace Go.Proofs.YtopdfijojjbjdaaGreat
open Go Go.RowKit Go.Shelf

def replL (a b : List Btc) (is : List Int) : List Btc := is.foldl (fun acc i => acc.set i.toNat (b.getD i.toNat zC)) a
theorem replL_snoc (a b : List Btc) (is : List Int) (i : Int) : replL a b (is ++ [i]) = (replL a b is).set i.toNat (b.getD i.toNat zC) := by simp [replL]
theorem replL_len (a b : List Btc) (is : List Int) : (replL a b is).length = a.length := by
  unfold replL
  induction is generalizing a with
  | nil => rfl
  | cons i is ih => rw [List.foldl_cons, ih]; simp
/-- The indices are in range, and none occurs twice. -/
def okB (n : Nat) (is : List Int) : Bool := is.all (fun i => decide (0 ≤ i ∧ i < n)) && decide is.Nodup
theorem okB_nil (n : Nat) : okB n [] = true := rfl
theorem okB_snoc {n : Nat} {is : List Int} {i : Int} (h : okB n is = true) : okB n (is ++ [i]) = (decide (0 ≤ i ∧ i < n) && !decide (i ∈ is)) := by
  simp only [okB, Bool.and_eq_true, decide_eq_true_eq] at h
  simp only [okB, List.all_append, h.1, List.all_cons, List.all_nil, Bool.true_and, Bool.and_true]
  by_cases hr : 0 ≤ i ∧ i < n
  · simp only [hr, and_self, decide_true, Bool.true_and]
    by_cases hm : i ∈ is
    · simp [hm, List.nodup_append]
    · simp only [hm, decide_false, Bool.not_false, decide_eq_true_eq]
      rw [List.nodup_append]
      refine ⟨h.2, by simp, fun x hx y hy => ?_⟩
      simp at hy
      subst hy
      exact fun he => hm (he ▸ hx)
  · simp [hr]
theorem okB_take {n : Nat} {is : List Int} {k : Nat} (hk : k < is.length) (h : okB n (is.take k) = true) : okB n (is.take (k + 1)) = (decide (0 ≤ is[k] ∧ is[k] < n) && !decide (is[k] ∈ is.take k)) := by
  rw [List.take_succ_eq_append_getElem hk, okB_snoc h]
theorem okB_false {n : Nat} {is : List Int} {k : Nat} (h : okB n (is.take k) = false) : okB n is = false := by
  cases hb : okB n is
  · rfl
  · simp only [okB, Bool.and_eq_true, List.all_eq_true, decide_eq_true_eq] at hb
    have : okB n (is.take k) = true := by
      simp only [okB, Bool.and_eq_true, List.all_eq_true, decide_eq_true_eq]
      exact ⟨fun x hx => hb.1 x (List.mem_of_mem_take hx), hb.2.sublist (List.take_sublist _ _)⟩
    rw [this] at h
    cases h

/-- From lo on, below hi, but for the row's own block. -/
def RepT (lo hi : Nat) (v : Value) : Nat → Prop := fun b => lo ≤ b ∧ b < hi ∧ some b ≠ v.ownBlock
def RepOut (lo mid hi : Nat) (w3 wr : World) (v : Value) (a b : List Btc) (is : List Int) : Prop :=
  Own lo 55 2 (wBtc (RepT lo hi v)) wr v (replL a b is) ∧ Same (Span mid hi) w3 wr ∧ (∀ g, v.ownBlock = some g → g < mid) ∧ lo ≤ mid ∧ mid ≤ hi ∧ hi ≤ wr.heap.size
theorem RepOut.start {lo : Nat} {w2 w3 : World} {v : Value} {ys : List Sp} {a b : List Btc} (h : Twinned lo w2 v ys) (hy : ys.map (·.x) = a) (hlo : lo ≤ w2.heap.size) (hb : Below w2.heap.size w2 w3) :
    RepOut lo w2.heap.size w3.heap.size w3 w3 v a b [] := by
  have h1 := h.below hb
  have h2 := Own.map (dec' := wBtc (RepT lo w3.heap.size v)) (·.x) h1.1 (fun x _ cs hd => (dSep.toW hd).mono fun b hb => ⟨hb.1, hb.2.1, hb.2.2⟩)
  rw [hy] at h2
  exact ⟨h2, Same.refl _ _, fun g hg => (Own.lt h.1 g hg).2, hlo, hb.size, Nat.le_refl _⟩
theorem RepOut.at {lo mid hi : Nat} {w3 wr : World} {a1 : Option Addr} {n c : Nat} {a b : List Btc} {is : List Int} (h : RepOut lo mid hi w3 wr (.slice a1 n c) a b is) {k : Nat} (hk : k < a.length) :
    ∃ g x y, a1 = some ⟨g, 0, none⟩ ∧ lo ≤ g ∧ g < mid ∧ g < wr.heap.size ∧ wr.cell? ⟨g, k * 2, none⟩ = some x ∧ wr.cell? ⟨g, k * 2 + 1, none⟩ = some y ∧ ∀ o, wr.frozen? ⟨g, o, none⟩ = false := by
  obtain ⟨g, x, y, rfl, h1, h2, h3, h4, h5, -⟩ := Own.at2 h.1 (by rw [replL_len]; exact hk)
  exact ⟨g, x, y, rfl, h1, h.2.2.1 g rfl, h2, h3, h4, h5⟩
/-- The other count's batch, read in the middle. -/
theorem other_at {mid hi : Nat} {w3 wr : World} {a2 : Option Addr} {n2 c2 : Nat} {b : List Btc} (h : WBtcs (Span mid hi) w3 (.slice a2 n2 c2) b) (hs : Same (Span mid hi) w3 wr) {k : Nat} (hk : k < b.length) :
    ∃ g off p q, a2 = some ⟨g, off, none⟩ ∧ mid ≤ g ∧ wr.cell? ⟨g, off + k * 2, none⟩ = some (.string b[k].name) ∧ wr.cell? ⟨g, off + k * 2 + 1, none⟩ = some (.slice p b[k].blts.length q) ∧ wBtc (Span mid hi) wr [.string b[k].name, .slice p b[k].blts.length q] b[k] := by
  obtain ⟨g, off, c, d, rfl, hS, -, hc, hd, hx⟩ := RSl.at2 (WBtcs.same hs h).1 k hk
  obtain ⟨p, q, rfl, rfl, -⟩ := hx.toD.open
  exact ⟨g, off, p, q, rfl, hS.1, hc, hd, hx⟩
theorem RepOut.step {lo mid hi : Nat} {w3 wr w' : World} {g n c : Nat} {a b : List Btc} {is : List Int} (h : RepOut lo mid hi w3 wr (.slice (some ⟨g, 0, none⟩) n c) a b is) {i : Int} {k : Nat} (hi' : i = k) (hk : k < a.length) (hkb : k < b.length) {x y : Value}
    (hx : wBtc (Span mid hi) wr [x, y] b[k]) (hw : ∀ j, j < hi → w'.heap[j]? = ((wr.setCell ⟨g, k * 2, none⟩ x).setCell ⟨g, k * 2 + 1, none⟩ y).heap[j]?) (hz : wr.heap.size ≤ w'.heap.size) :
    RepOut lo mid hi w3 w' (.slice (some ⟨g, 0, none⟩) n c) a b (is ++ [i]) := by
  obtain ⟨h1, h2, h3, h4, hmh, h5⟩ := h
  subst hi'
  have hg := h3 g rfl
  have hoff : ∀ j, j < hi → j ≠ g → w'.heap[j]? = wr.heap[j]? := fun j hj hne => (hw j hj).trans (setCell2_off hne x y)
  refine ⟨?_, fun j hj hS => (hoff j hS.2 (by have := hS.1; omega)).trans (h2 j hj hS), h3, h4, hmh, Nat.le_trans h5 hz⟩
  have hset : replL a b (is ++ [(k : Int)]) = (replL a b is).set k b[k] := by rw [replL_snoc, Int.toNat_natCast, getD_at zC hkb]
  rw [hset]
  refine Own.put2 h1 (by rw [replL_len]; exact hk) (c := x) (u := y) (fun cur hcur _ => ?_) ?_ (fun j hj hjk cs hcs => ?_)
  · obtain ⟨cur', e1, e2⟩ := heap_setCell2 (k := k) hcur x y
    exact ⟨cur', (hw g (by omega)).trans e1, e2⟩
  · refine (wBtc.stable (Span mid hi) _ _ _ _ (fun j _ hS => hoff j hS.2 (by have := hS.1; omega)) hx).mono fun j hS => ⟨by have := hS.1; omega, hS.2, fun he => ?_⟩
    simp only [Value.ownBlock, Option.some.injEq] at he
    have := hS.1
    omega
  · exact wBtc.stable (RepT lo hi (.slice (some ⟨g, 0, none⟩) n c)) _ _ _ _ (fun j _ hS => hoff j hS.2.1 (fun he => hS.2.2 (by rw [he]; rfl))) hcs
theorem RepOut.done {lo mid hi : Nat} {w3 wr : World} {v : Value} {a b : List Btc} {is : List Int} (h : RepOut lo mid hi w3 wr v a b is) (hl : a.length ≤ 1000000) : WBtcs (From lo) wr v (replL a b is) :=
  WSl.mono (fun _ _ _ hd => hd.mono fun _ hb => hb.1) (fun _ hb => hb) (Own.wsl h.1 (by rw [replL_len]; omega))
end Go.Proofs.YtopdfijojjbjdaaGreat

/- The contracts of canvass.Replace and of the reference's Replace. -/
namespace Go.Proofs.YtopdfijojjbjdaaGreat
open Go Go.RowKit Go.Shelf Go.Maps

def repI (a b : List Btc) (c kind : Int) (is : List Int) : Int := if fitI a b c kind = 0 then (if okB a.length is then 0 else 2) else fitI a b c kind
def repV (a b : List Btc) (c kind : Int) (is : List Int) : List Btc := if repI a b c kind is = 0 then replL a b is else []
def RepGives (a b : List Btc) (c kind : Int) (is : List Int) (w : World) (e : Ending) (w' : World) : Prop :=
  ∃ v, e = .returned (.tuple #[v, .int .i64 (repI a b c kind is)]) ∧ WBtcs (From w.heap.size) w' v (repV a b c kind is) ∧ Below w.heap.size w w'
theorem RepGives.none {a b : List Btc} {c kind : Int} {is : List Int} {w w' : World} {i : Int} (hi : repI a b c kind is = i) (h0 : i ≠ 0) (hb : Below w.heap.size w w') :
    RepGives a b c kind is w (.returned (.tuple #[.slice none 0 0, .int .i64 i])) w' := ⟨_, by rw [hi], by rw [repV, if_neg (by rw [hi]; exact h0)]; exact WSl.nil, hb⟩
theorem RepGives.some {a b : List Btc} {c kind : Int} {is : List Int} {w w' : World} {v : Value} {lo : Nat} (hf : fitI a b c kind = 0) (ho : okB a.length is = true) (hv : WBtcs (From lo) w' v (replL a b is)) (hlo : w.heap.size ≤ lo) (hb : Below w.heap.size w w') :
    RepGives a b c kind is w (.returned (.tuple #[v, .int .i64 0])) w' := by
  have hi : repI a b c kind is = 0 := by rw [repI, if_pos hf, if_pos ho]
  exact ⟨v, by rw [hi], by rw [repV, if_pos hi]; exact WSl.mono (fun _ _ _ hh => hh.mono fun _ hc => Nat.le_trans hlo hc) (fun _ hc => Nat.le_trans hlo hc) hv, hb⟩
theorem repI_bad {a b : List Btc} {c kind : Int} {is : List Int} (hf : fitI a b c kind = 0) (ho : okB a.length is = false) : repI a b c kind is = 2 := by rw [repI, if_pos hf, if_neg (by rw [ho]; simp)]
theorem RepOut.below {lo mid hi : Nat} {w3 wr w' : World} {v : Value} {a b : List Btc} {is : List Int} (h : RepOut lo mid hi w3 wr v a b is) (hb : Below wr.heap.size wr w') : RepOut lo mid hi w3 w' v a b is := by
  obtain ⟨h1, h2, h3, h4, h5, h6⟩ := h
  exact ⟨Own.below (wBtc.stable _) h1 hb, fun j hj hS => (hb.block j (Nat.lt_of_lt_of_le hS.2 h6)).trans (h2 j hj hS), h3, h4, h5, Nat.le_trans h6 hb.size⟩
theorem Tryz.zeroBool (w : World) : (zeroValue 4).run Tryz.prog w = .ok (.bool false) w := by kernel_rfl

set_option maxHeartbeats 2000000 in
theorem canvassReplace_unfit (S T : Nat → Prop) (u v z : Value) (a b : List Btc) (c kind : Int) (is : List Int) (w : World) (hx : RBtcs S w u a) (hy : RBtcs T w v b) (hsa : Small a) (hsb : Small b) (hf : fitI a b c kind ≠ 0) :
    Calls Tryz.prog 7 #[u, v, .int .i64 c, .int .u8 kind, z] w (RepGives a b c kind is w) := by
  have hF := canvassFit S T u v a b c kind w hx hy hsa.1 hsb.1
  have hG := fun w' (hb : Below w.heap.size w w') => RepGives.none (a := a) (b := b) (c := c) (kind := kind) (is := is) (w := w) (w' := w') (by rw [repI, if_neg hf]) hf hb
  obtain ⟨a1, cap1, rfl, -, -⟩ := RSl.shape hx
  obtain ⟨a2, cap2, rfl, -, -⟩ := RSl.shape hy
  generalize fitI a b c kind = I at *
  have hz : (I != 0) = true := by simpa using hf
  have HF := Lib.hid hF; have HG := Lib.hid hG; clear hF hG hf hx hy
  go_enter Tryz.func7, Tryz.ntmps7
  go_wp2_with (go_at_call 20; refine HF.out.mono ?_; rintro e w1 ⟨rfl, hb1⟩)
  go_ret2
  exact HG.out _ hb1

set_option maxHeartbeats 4000000 in
set_option maxRecDepth 100000 in
theorem canvassReplace_fit (S T U : Nat → Prop) (u v z : Value) (a b : List Btc) (c kind : Int) (is : List Int) (w : World) (hx : RBtcs S w u a) (hy : RBtcs T w v b) (hzi : RInts U w z is) (hli : is.length ≤ 1000) (hsa : Small a) (hsb : Small b) (hf : fitI a b c kind = 0) :
    Calls Tryz.prog 7 #[u, v, .int .i64 c, .int .u8 kind, z] w (RepGives a b c kind is w) := by
  have hF := canvassFit S T u v a b c kind w hx hy hsa.1 hsb.1
  have hft := (fitted hf).1
  have hBad := fun w' (hb : Below w.heap.size w w') (ho : okB a.length is = false) => RepGives.none (a := a) (b := b) (c := c) (kind := kind) (is := is) (w := w) (w' := w') (repI_bad hf ho) (by omega) hb
  have hGood := fun w' p lo (ho : okB a.length is = true) hv (hlo : w.heap.size ≤ lo) (hb : Below w.heap.size w w') => RepGives.some (a := a) (b := b) (c := c) (kind := kind) (is := is) (w := w) (w' := w') (v := p) (lo := lo) hf ho hv hlo hb
  have hTA := fun W (hW : Below w.heap.size w W) => twin S u a W (hx.same (.of_below hW)) hsa
  have hTB := fun W (hW : Below w.heap.size w W) => twin T v b W (hy.same (.of_below hW)) hsb
  rw [hf] at hF
  obtain ⟨a1, cap1, rfl, hx1, hx2⟩ := RSl.shape hx
  obtain ⟨a2, cap2, rfl, -, -⟩ := RSl.shape hy
  obtain ⟨a3, cap3, rfl, hz1, hz2⟩ := RSl.shape hzi
  have hmm := @run_makeMap Tryz.prog
  have HF := Lib.hid hF; have HBad := Lib.hid hBad; have HGood := Lib.hid hGood; have HTA := Lib.hid hTA; have HTB := Lib.hid hTB; have HZ := Lib.hid hzi; have Hft := Lib.hid hft; have Hsa := Lib.hid hsa; have Hsb := Lib.hid hsb
  clear hF hBad hGood hTA hTB hzi hft hsa hsb hx hy hf
  go_enter Tryz.func7, Tryz.ntmps7
  go_wp2_with (first
    | (go_at_call 20; refine HF.out.mono ?_; rintro e w1 ⟨rfl, hb1⟩; have hl1 := hb1.size)
    | (go_at_call_of 22 (a1); refine (HTA.out _ hb1).mono ?_; rintro e w2 ⟨v2, ys, rfl, htw, hys, hb2⟩; have hq2 := hb1.trans (hb2.mono hl1); have hl2 := hq2.size; obtain ⟨a4, c4, e4⟩ := id (OwnX.shape htw.1); rw [show ys.length = a.length from (by have := congrArg List.length hys; simpa using this)] at e4; subst e4; have Htw := Lib.hid htw; have Hys := Lib.hid hys; have Hb2 := Lib.hid hb2.size; clear htw hys)
    | (go_at_call 22; refine (HTB.out _ hq2).mono ?_; rintro e w3 ⟨v3, zs, rfl, htw3, hzs, hb3⟩; have hq3 := hq2.trans (hb3.mono hl2); have hl3 := hq3.size; obtain ⟨a5, c5, e5⟩ := id (OwnX.shape htw3.1); rw [show zs.length = b.length from (by have := congrArg List.length hzs; simpa using this)] at e5; subst e5; have Hot := Lib.hid (twin_reads htw3 hzs Hsb.out); have Hb3 := Lib.hid hb3; clear htw3 hzs))
  have hro := (RepOut.start (b := b) Htw.out Hys.out Hb2.out Hb3.out).below (below_new w3 (.map #[] 0))
  have hmf := MapF.made w3 Tryz.prog 3 4
  have hq4 : Below w.heap.size w (w3.alloc (.map #[] 0)) := hq3.alloc hl3 _
  have Hro := Lib.hid hro; have Hmf := Lib.hid hmf
  clear hro hmf hmm Htw Hys HTA HTB HF
  go_loopw [33] (fun i wr => ∃ (k : Nat) (f : Lit → Option Lit), k ≤ is.length ∧ i = .int .i64 k ∧ Hid (okB a.length (is.take k) = true) ∧ Hid (MapF wr Tryz.prog 3 4 w3.heap.size k f) ∧ Hid (∀ x : Int, isTrue (f (.int .i64 x)) = decide (x ∈ is.take k)) ∧
    Hid (RepOut w1.heap.size w2.heap.size w3.heap.size w3 wr (.slice a4 a.length c4) a b (is.take k)) ∧ Below w.heap.size w wr) (fun i _ => is.length - (intOf i).toNat)
  case atStart => exact ⟨0, _, Nat.zero_le _, rfl, Lib.hid (by rw [List.take_zero]; exact okB_nil _), Hmf, Lib.hid (fun x => by simp [isTrue]), by rw [List.take_zero]; exact Hro, hq4⟩
  case round =>
    clear Hro Hmf hq4
    obtain ⟨k, f, hk, rfl, hok, hmf, hfx, hro, hb⟩ := hrel
    have hlr := hb.size
    by_cases hlt : k < is.length
    · obtain ⟨bz, offz, cz, rfl, -, hbz, hcz, hdz⟩ := RSl.at1 (RInts.same (.of_below hb) HZ.out) k hlt
      obtain ⟨rfl, hwz⟩ := hdz.open
      have hnx := okB_take hlt hok.out
      have hlk := fun x => (hmf.out.look_bool (int_keyed Tryz.underlying3) Tryz.underlying71 Tryz.underlying4 (Tryz.zeroBool wr) (key := .int .i64 x) (kl := .int .i64 x) : keyOf Tryz.prog 3 (.int .i64 x) = some (.int .i64 x) → _)
      have hts : is.take (k + 1) = is.take k ++ [is[k]] := List.take_succ_eq_append_getElem hlt
      have hmem := hfx.out is[k]
      obtain ⟨x, hx⟩ : ∃ x, x = is[k] := ⟨_, rfl⟩
      rw [← hx] at hcz hwz hnx hts hmem
      have hlkx := hlk x (keyOf_int_mk Tryz.underlying3 hwz)
      have Hnx := Lib.hid hnx; have Hts := Lib.hid hts; have Hmem := Lib.hid hmem; have Hwz := Lib.hid hwz; have Hx := Lib.hid hx
      have hwx := wf_i64 hwz
      clear hnx hts hmem hlk hx hdz hwz
      have hdead : okB a.length (is.take (k + 1)) = false → okB a.length is = false := okB_false
      have Hdead := Lib.hid hdead; clear hdead
      by_cases b1 : x < 0
      · go_wp2
        go_ret2
        exact HBad.out _ hb (Hdead.out (by rw [Hnx.out, decide_eq_false (by omega), Bool.false_and]))
      by_cases b2 : (a.length : Int) ≤ x
      · go_wp2
        go_ret2
        exact HBad.out _ hb (Hdead.out (by rw [Hnx.out, decide_eq_false (by omega), Bool.false_and]))
      cases hit : isTrue (f (.int .i64 x))
      · rw [hit] at hlkx
        have hnm : ¬ x ∈ is.take k := by have := Hmem.out; rw [hit] at this; simpa using this.symm
        have hok2 : okB a.length (is.take (k + 1)) = true := by rw [Hnx.out, decide_eq_true (by omega : 0 ≤ x ∧ x < a.length), decide_eq_false hnm]; rfl
        have Hok2 := Lib.hid hok2; have Hnm := Lib.hid hnm
        clear hit hok2 hnm
        obtain ⟨n, rfl⟩ : ∃ n : Nat, x = n := ⟨x.toNat, by omega⟩
        have hn : n < a.length := by omega
        have hnb : n < b.length := by have := Hft.out.1; omega
        obtain ⟨g, y0, y1, rfl, hg1, hg2, hg3, hgc, hgd, hgf⟩ := hro.out.at hn
        obtain ⟨g5, off5, p5, q5, rfl, hg5, hoc, hod, how⟩ := other_at Hot.out hro.out.2.1 hnb
        have hgne : g ≠ g5 := by omega
        have hg3m : g < w3.heap.size := by have := Hb3.out.size; omega
        have hmf2 := (hmf.out.setCell (a := ⟨g, n * 2, none⟩) (by simp; omega) (.string b[n].name)).setCell (a := ⟨g, n * 2 + 1, none⟩) (by simp; omega) (.slice p5 b[n].blts.length q5)
        have Hmf2 := Lib.hid hmf2; have How := Lib.hid how
        clear hmf2 how
        go_wp2_with (at_mapUpdate; refine wpList_mapF _ rfl _ _ _ 71 rfl 3 4 (int_keyed Tryz.underlying3) Tryz.underlying71 w3.heap.size k f rfl Hmf2.out (by unfold maxLen; omega) _ _ (.int .i64 n) rfl rfl (keyOf_int_mk Tryz.underlying3 Hwz.out) trivial (.bool true) (plainElem_bool Tryz.underlying4 true) ?_; intro w6 hm6 hg6)
        refine ⟨⟨k + 1, _, by omega, by go_num, Hok2, Lib.hid hm6, Lib.hid (fun x' => ?_), Lib.hid ?_, ?_⟩, by simp [intOf]; omega⟩
        · rw [Hts.out]
          by_cases he : x' = n
          · subst he; rw [upd_same]; simp [isTrue]
          · rw [upd_other f (fun h => he (by injection h)), hfx.out x']; simp [he]
        · rw [Hts.out]
          exact hro.out.step rfl hn hnb How.out (fun j hj => hg6.block j (by simp [World.setCell]; have := hro.out.2.2.2.2.2; omega) (by simp; omega)) (by have := hg6.size; simpa [World.setCell] using this)
        · exact ((hb.setCell (p := ⟨g, n * 2, none⟩) (by simp; omega) _).setCell (p := ⟨g, n * 2 + 1, none⟩) (by simp; omega) _).grown hg6 (by simp [World.setCell]; omega) (fun j hj => by cases hj; omega)
      · rw [hit] at hlkx
        have hm : x ∈ is.take k := by have := Hmem.out; rw [hit] at this; simpa using this.symm
        have hbd := Hdead.out (by rw [Hnx.out, decide_eq_true hm]; simp)
        have Hbd := Lib.hid hbd
        clear hit hm hbd
        go_wp2
        go_ret2
        exact HBad.out _ hb Hbd.out
    · have hk' : k = is.length := by omega
      subst hk'
      go_wp2
      go_ret2
      exact HGood.out _ _ _ (by have := hok.out; rwa [List.take_length] at this) (by have := hro.out.done Hsa.out.1; rwa [List.take_length] at this) hl1 hb
end Go.Proofs.YtopdfijojjbjdaaGreat

/- The contract of the reference's Replace; both Replaces. -/
namespace Go.Proofs.YtopdfijojjbjdaaGreat
open Go Go.RowKit Go.Shelf Go.Maps

theorem canvassReplace (S T U : Nat → Prop) (u v z : Value) (a b : List Btc) (c kind : Int) (is : List Int) (w : World) (hx : RBtcs S w u a) (hy : RBtcs T w v b) (hzi : RInts U w z is) (hli : is.length ≤ 1000) (hsa : Small a) (hsb : Small b) :
    Calls Tryz.prog 7 #[u, v, .int .i64 c, .int .u8 kind, z] w (RepGives a b c kind is w) := by
  by_cases hf : fitI a b c kind = 0
  · exact canvassReplace_fit S T U u v z a b c kind is w hx hy hzi hli hsa hsb hf
  · exact canvassReplace_unfit S T u v z a b c kind is w hx hy hsa hsb hf
end Go.Proofs.YtopdfijojjbjdaaGreat
