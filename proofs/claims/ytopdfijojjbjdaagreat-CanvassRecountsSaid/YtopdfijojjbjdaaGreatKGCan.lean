/- Texts of one claim, put together: Slot, FitC, Cmp, Map, ChkS, Fnd, RecoS, Batch27, Reco, Alive27. -/
import Derived.Test.YtopdfijojjbjdaaGreatKGPut
import Derived.Test.YtopdfijojjbjdaaGreatKGSame
import Derived.Test.YtopdfijojjbjdaaGreatKGFoot
import Derived.Test.YtopdfijojjbjdaaGreatKGRat
import Derived.Laws.StructEq
import Derived.Deep.RegionHeld3
import Derived.Maps.OwnOps
import Derived.Maps.OwnSet
import Derived.Maps.Views

/- Manifests and places: how they read; the contracts of their comparisons, and of both Manifests. -/
namespace Go.Proofs.YtopdfijojjbjdaaGreat
open Go Go.RowKit Go.Shelf

structure Slot where
  name : ByteArray
  many : Int
structure Place where
  batch : Int
  place : Int
def dSlot (_ : World) (cs : List Value) (x : Slot) : Prop := cs = [.string x.name, .int .i64 x.many] ∧ x.name.size ≤ 140737488355328 ∧ (Lit.int .i64 x.many).wf = true
def dPlace (_ : World) (cs : List Value) (x : Place) : Prop := cs = [.int .i64 x.batch, .int .i64 x.place] ∧ (Lit.int .i64 x.batch).wf = true ∧ (Lit.int .i64 x.place).wf = true
theorem dSlot.stable (S : Nat → Prop) : Stable S dSlot := fun _ _ _ _ _ h => h
theorem dPlace.stable (S : Nat → Prop) : Stable S dPlace := fun _ _ _ _ _ h => h
theorem dSlot.one : OneC dSlot := by
  intro w cs x h u hu; obtain ⟨rfl, _⟩ := h; simp at hu; rcases hu with rfl | rfl <;> rfl
theorem dPlace.one : OneC dPlace := by
  intro w cs x h u hu; obtain ⟨rfl, _⟩ := h; simp at hu; rcases hu with rfl | rfl <;> rfl
theorem dSlot.open {w : World} {c d : Value} {x : Slot} (h : dSlot w [c, d] x) : (c = .string x.name ∧ d = .int .i64 x.many) ∧ x.name.size ≤ 140737488355328 ∧ (Lit.int .i64 x.many).wf = true := by simpa [dSlot] using h
theorem dPlace.open {w : World} {c d : Value} {x : Place} (h : dPlace w [c, d] x) : (c = .int .i64 x.batch ∧ d = .int .i64 x.place) ∧ (Lit.int .i64 x.batch).wf = true ∧ (Lit.int .i64 x.place).wf = true := by simpa [dPlace] using h
def eqSlot (x y : Slot) : Bool := sameName x.name y.name && decide (x.many = y.many)
def maniL (l : List Btc) : List Slot := l.map fun b => ⟨b.name, (b.blts.length : Int)⟩
theorem Tryz.infoSlot : (Tryz.prog.info? 51).map (fun i => (i.zero, i.size, i.bytes)) = some (some (.agg #[.string ⟨#[]⟩, .int .i64 0]), 2, 24) := by kernel_rfl
theorem Tryz.infoPlace : (Tryz.prog.info? 31).map (fun i => (i.zero, i.size, i.bytes)) = some (some (.agg #[.int .i64 0, .int .i64 0]), 2, 16) := by kernel_rfl
theorem Tryz.fieldsSlot : Tryz.prog.underlying 51 = some (.struct (Tryz.prog.fieldsOf 51)) := by kernel_rfl
theorem Tryz.heldSlot : Tryz.prog.stoodInHeld 51 = false := by kernel_rfl
theorem neqSlot (w : World) {w1 w2 : World} {c d c' d' : Value} {x y : Slot} (h : dSlot w1 [c, d] x) (k : dSlot w2 [c', d'] y) :
    (binOp .neq 51 (.agg #[c, d]) (.agg #[c', d'])).run Tryz.prog w = .ok (.bool (!eqSlot x y)) w := by
  obtain ⟨⟨rfl, rfl⟩, -⟩ := h.open
  obtain ⟨⟨rfl, rfl⟩, -⟩ := k.open
  rw [run_neq_struct, run_equalIn_agg _ _ _ _ _ Tryz.fieldsSlot Tryz.heldSlot]
  simp [go_sem, Tryz.underlying51, Tryz.underlying9, Tryz.underlying3]
  by_cases h1 : x.name.toList = y.name.toList <;> by_cases h2 : x.many = y.many <;> simp [h1, h2, eqSlot, sameName]
set_option maxHeartbeats 1000000 in
theorem slotsEqual (S T : Nat → Prop) (u v : Value) (xs ys : List Slot) (w : World) (hx : RSl S 2 dSlot w u xs) (hy : RSl T 2 dSlot w v ys) :
    Calls Tryz.prog 45 #[u, v] w fun e w' => e = .returned (.bool (eqL eqSlot xs ys)) ∧ Below w.heap.size w w' := by
  obtain ⟨a1, cap1, rfl, hx1, hx2⟩ := RSl.shape hx
  obtain ⟨a2, cap2, rfl, hy1, hy2⟩ := RSl.shape hy
  by_cases hl : xs.length = ys.length
  case neg =>
    have hl' : ((xs.length : Int) != (ys.length : Int)) = true := by simpa using (by omega : ¬ (xs.length : Int) = ys.length)
    have hr := eqL_ne_len (p := eqSlot) hl
    have Hr := Lib.hid hr; clear hr hl
    go_enter Tryz.func45, Tryz.ntmps45
    go_wp2
    go_ret
    exact ⟨ret_bool Hr.out.symm, Below.refl _ _⟩
  have hl' : ((xs.length : Int) != (ys.length : Int)) = false := by simpa using (by omega : (xs.length : Int) = ys.length)
  have Hl := Lib.hid hl; clear hl
  go_enter Tryz.func45, Tryz.ntmps45
  go_wp2
  go_loopw [13] (fun i wr => ∃ k : Nat, k ≤ xs.length ∧ i = .int .i64 k ∧ Hid (∀ j (h1 : j < xs.length) (h2 : j < ys.length), j < k → eqSlot xs[j] ys[j] = true) ∧ Below w.heap.size w wr) (fun i _ => xs.length - (intOf i).toNat)
  case atStart => exact ⟨0, Nat.zero_le _, rfl, Lib.hid (fun _ _ _ h => by omega), Below.refl _ _⟩
  case round =>
    obtain ⟨k, hk, rfl, hg, hb⟩ := hrel
    by_cases hlt : k < xs.length
    · have hlt2 : k < ys.length := by have := Hl.out; omega
      obtain ⟨b, off, c0, c1, rfl, -, hbw, hc0, hc1, hd⟩ := RSl.at2 hx k hlt
      obtain ⟨b2, off2, d0, d1, rfl, -, hbw2, hd0, hd1, hd2⟩ := RSl.at2 hy k hlt2
      have hq : ∀ w : World, (binOp .neq 51 (.agg #[c0, c1]) (.agg #[d0, d1])).run Tryz.prog w = .ok (.bool (!eqSlot xs[k] ys[k])) w := fun w => neqSlot w hd hd2
      obtain ⟨⟨rfl, rfl⟩, -⟩ := hd.open
      obtain ⟨⟨rfl, rfl⟩, -⟩ := hd2.open
      have ec0 := fun p => cell_ext (w := wr) ((Same.of_below (S := Any) hb).cell trivial hc0) p
      have ec1 := fun p => cell_ext (w := wr) ((Same.of_below (S := Any) hb).cell trivial hc1) p
      have ed0 := fun p => cell_ext (w := wr) ((Same.of_below (S := Any) hb).cell trivial hd0) p
      have ed1 := fun p => cell_ext (w := wr) ((Same.of_below (S := Any) hb).cell trivial hd1) p
      clear hc0 hd0 hc1 hd1 hd hd2
      cases he : eqSlot xs[k] ys[k]
      · rw [he] at hq
        have hr := eqL_ne_at (p := eqSlot) k hlt hlt2 he
        have Hr := Lib.hid hr; clear he hr
        go_wp2
        refine wp_region_ext (by kernel_rfl) (by kernel_rfl) ?_
        repeat (go_big_quiet_step (fail))
        refine wpQuiet_nil ?_
        intro _ hw'; obtain ⟨p, rfl⟩ := hw'
        go_wp2
        go_ret
        exact ⟨ret_bool Hr.out.symm, hb.trans ((below_ext wr p).mono hb.size)⟩
      · rw [he] at hq
        have He := Lib.hid he; clear he
        go_wp2
        refine wp_region_ext (by kernel_rfl) (by kernel_rfl) ?_
        repeat (go_big_quiet_step (fail))
        refine wpQuiet_nil ?_
        intro _ hw'; obtain ⟨p, rfl⟩ := hw'
        go_wp2
        refine ⟨⟨k + 1, by omega, by go_num, Lib.hid (fun j h1 h2 hj => ?_), hb.trans ((below_ext wr p).mono hb.size)⟩, by simp [intOf]; omega⟩
        by_cases e : j = k
        · subst e; exact He.out
        · exact hg.out j h1 h2 (by omega)
    · go_wp2
      go_ret
      exact ⟨ret_bool (eqL_of Hl.out (fun j h1 h2 => hg.out j h1 h2 (by omega))).symm, hb⟩

set_option maxHeartbeats 1000000 in
set_option maxRecDepth 100000 in
theorem manifest (S : Nat → Prop) (v : Value) (l : List Btc) (w : World) (h : RBtcs S w v l) (hll : l.length ≤ 1000000) :
    Calls Tryz.prog 46 #[v] w (GivesOwn 51 2 dSlot (maniL l) w) := by
  obtain ⟨a, cap, rfl, h1, h2⟩ := RSl.shape h
  go_enter Tryz.func46, Tryz.ntmps46
  go_wp2
  go_loopw [2, 7] (fun s i wr => ∃ k : Nat, k ≤ l.length ∧ i = .int .i64 k ∧ Own w.heap.size 51 2 dSlot wr s (maniL (l.take k)) ∧ Below w.heap.size w wr) (fun _ i _ => l.length - (intOf i).toNat)
  case atStart => exact ⟨0, Nat.zero_le _, rfl, Own.nil _ _ _ _ _, Below.refl _ _⟩
  case round =>
    obtain ⟨k, hk, rfl, ho, hb⟩ := hrel
    obtain ⟨ao, co, hso⟩ := Own.shape ho
    have hsl : (maniL (l.take k)).length = k := by simp [maniL]; omega
    rw [hsl] at hso
    subst hso
    have Hsl := Lib.hid hsl; clear hsl
    by_cases hlt : k < l.length
    · obtain ⟨b, off, c, d, rfl, hS, hbw, hc, hd, hx⟩ := RSl.at2 h k hlt
      obtain ⟨a2, cap2, rfl, rfl, hl1, hnl, -⟩ := hx.open
      have hc := (Same.of_below (S := Any) hb).cell trivial hc
      have hd := (Same.of_below (S := Any) hb).cell trivial hd
      have hz := hb.size
      have hts : maniL (l.take (k + 1)) = maniL (l.take k) ++ [⟨l[k].name, (l[k].blts.length : Int)⟩] := by rw [List.take_succ_eq_append_getElem hlt]; simp only [maniL, List.map_append, List.map_cons, List.map_nil]
      have hnw : Below wr.heap.size wr ((wr.alloc (.cells #[.string l[k].name, .slice a2 l[k].blts.length cap2] 55)).alloc (.cells #[.string l[k].name, .int .i64 l[k].blts.length] 51)) := ((Below.refl _ _).alloc (Nat.le_refl _) _).alloc (by simp) _
      have hOw := Own.below (S := fun _ => False) (dSlot.stable _) ho hnw
      have hlo := fun b hbk => (Own.lt ho b hbk).1
      have hnb : some b ≠ (Value.slice ao k co).ownBlock := fun he => by have := hlo b he.symm; omega
      have Hnb := Lib.hid hnb; clear hnb
      have hbx : ((wr.alloc (.cells #[.string l[k].name, .slice a2 l[k].blts.length cap2] 55)).alloc (.cells #[.string l[k].name, .int .i64 l[k].blts.length] 51)).heap[wr.heap.size + 1]? = some (.cells #[.string l[k].name, .int .i64 l[k].blts.length] 51 (0, 0)) := by simpa using box_new (wr.alloc (.cells #[.string l[k].name, .slice a2 l[k].blts.length cap2] 55)) (.cells #[.string l[k].name, .int .i64 l[k].blts.length] 51)
      have hu : RSl (From 0) 2 dSlot ((wr.alloc (.cells #[.string l[k].name, .slice a2 l[k].blts.length cap2] 55)).alloc (.cells #[.string l[k].name, .int .i64 l[k].blts.length] 51)) (.slice (some ⟨wr.heap.size + 1, 0, none⟩) 1 1) [(⟨l[k].name, (l[k].blts.length : Int)⟩ : Slot)] := RSl.built (cs := [.string l[k].name, .int .i64 l[k].blts.length]) (Nat.zero_le _) hbx rfl ⟨rfl, hnl, wf_len hl1⟩
      have Hts := Lib.hid hts; have HOw := Lib.hid hOw; have Hu := Lib.hid hu; have Hlo := Lib.hid hlo; have Hnw := Lib.hid hnw; clear hts hx ho hOw hu hlo hbx hnw
      go_wp2_with (at_builtin; go_must (refine wpList_app _ Tryz.infoSlot rfl rfl Tryz.underlying52 ⟨rfl, by omega, by omega⟩ dSlot.one (dSlot.stable (fun _ => False)) w.heap.size HOw.out rfl Hu.out rfl (by rw [Hsl.out]; simp; omega) (by simp; omega) ?_); intro a1 c1 w1 hg hat ho1; have ho2 := ho1 (fun _ _ h => h.elim); have hb1 := (hb.trans (Hnw.out.mono hz)).grown hg (by simp; omega) Hlo.out; have Ho2 := Lib.hid ho2; have Hg := Lib.hid hg; have Hat := Lib.hid hat; clear ho1 ho2 hg hat)
      exact ⟨⟨k + 1, by omega, by go_num, by have h3 := Ho2.out; rw [List.length_append] at h3; rw [Hts.out]; exact h3, hb1⟩, by simp [intOf]; omega⟩
    · have hk' : k = l.length := by omega
      subst hk'
      have Ho := Lib.hid ho; clear ho
      go_wp2
      go_ret
      exact ⟨_, rfl, by have := Ho.out; rwa [List.take_length] at this, hb⟩

end Go.Proofs.YtopdfijojjbjdaaGreat

/- The contracts of canvass.fit and of the reference's Fit. -/
namespace Go.Proofs.YtopdfijojjbjdaaGreat
open Go Go.RowKit Go.Shelf

/-- The answer of fit, out of the checks' answers and whether the manifests are equal. -/
def fit3 (ra rb : Int) (e : Bool) : Int := if ra = 0 then (if rb = 0 then (if e then 0 else 270) else rb) else ra
def fitI (a b : List Btc) (c kind : Int) : Int := fit3 (recCheck a c kind) (recCheck b c kind) (eqL eqSlot (maniL a) (maniL b))
set_option maxHeartbeats 1000000 in
theorem canvassFit (S T : Nat → Prop) (u v : Value) (a b : List Btc) (c kind : Int) (w : World) (hx : RBtcs S w u a) (hy : RBtcs T w v b) (hla : a.length ≤ 1000000) (hlb : b.length ≤ 1000000) :
    Calls Tryz.prog 20 #[u, v, .int .i64 c, .int .u8 kind] w fun e w' => e = .returned (.int .i64 (fitI a b c kind)) ∧ Below w.heap.size w w' := by
  have hA : ∀ W, Below w.heap.size w W → RBtcs S W u a := fun W hW => hx.same (.of_below hW)
  have hB : ∀ W, Below w.heap.size w W → RBtcs T W v b := fun W hW => hy.same (.of_below hW)
  have hCA : ∀ W, Below w.heap.size w W → Calls Tryz.prog 26 #[u, .int .i64 c, .int .u8 kind] W _ := fun W hW => recordCheck S u a c kind W (hA W hW)
  have hCB : ∀ W, Below w.heap.size w W → Calls Tryz.prog 26 #[v, .int .i64 c, .int .u8 kind] W _ := fun W hW => recordCheck T v b c kind W (hB W hW)
  have hE : ∀ W p q, RSl (From 0) 2 dSlot W p (maniL a) → RSl (From 0) 2 dSlot W q (maniL b) → Calls Tryz.prog 45 #[p, q] W _ := fun W p q hp hq => slotsEqual (From 0) (From 0) p q _ _ W hp hq
  obtain ⟨a1, cap1, rfl, -, -⟩ := RSl.shape hx
  obtain ⟨a2, cap2, rfl, -, -⟩ := RSl.shape hy
  have hr : fitI a b c kind = fit3 (recCheck a c kind) (recCheck b c kind) (eqL eqSlot (maniL a) (maniL b)) := rfl
  generalize recCheck a c kind = ra at *
  generalize recCheck b c kind = rb at *
  generalize eqL eqSlot (maniL a) (maniL b) = eq at *
  generalize fitI a b c kind = I at *
  subst hr
  have hml : (maniL a).length ≤ 140737488355328 := by simp [maniL]; omega
  have hml2 : (maniL b).length ≤ 140737488355328 := by simp [maniL]; omega
  have HA := Lib.hid hA; have HB := Lib.hid hB; have HCA := Lib.hid hCA; have HCB := Lib.hid hCB; have HE := Lib.hid hE; have Hml := Lib.hid hml; have Hml2 := Lib.hid hml2
  clear hA hB hCA hCB hE hx hy hml hml2
  go_enter Tryz.func20, Tryz.ntmps20
  go_wp2
  go_loopw [16] (fun i wr => ∃ k : Nat, k ≤ 2 ∧ i = .int .i64 k ∧ Hid ((1 ≤ k → ra = 0) ∧ (2 ≤ k → rb = 0)) ∧ Hid (wr.heap[w.heap.size]? = some (.cells #[.slice a1 a.length cap1, .slice a2 b.length cap2] 22 (0, 0))) ∧ Below w.heap.size w wr) (fun i _ => 2 - (intOf i).toNat)
  case atStart => exact ⟨0, Nat.zero_le _, rfl, Lib.hid ⟨by omega, by omega⟩, Lib.hid (box_new _ _), below_new _ _⟩
  case round =>
    obtain ⟨k, hk, rfl, hg, hbx, hb⟩ := hrel
    obtain ⟨-, hcr, hfr⟩ := own_box (Below.refl _ _) (size_of_box hbx.out) hbx.out
    have hlw := size_of_box hbx.out
    have hk3 : k = 0 ∨ k = 1 ∨ k = 2 := by omega
    rcases hk3 with rfl | rfl | rfl
    · by_cases h0 : ra = 0
      · subst h0
        have hz0 : ((0 : Int) != 0) = false := rfl
        go_wp2_with (go_at_call 26; refine (HCA.out _ hb).mono ?_; rintro e w1 ⟨rfl, hb1⟩; obtain ⟨gx1, hcx1, hfx1⟩ := own_box hb1 hlw hbx.out)
        exact ⟨⟨1, by omega, by go_num, Lib.hid ⟨by simp, by omega⟩, Lib.hid gx1, hb.trans (hb1.mono hb.size)⟩, by simp [intOf]⟩
      · have hz0 : (ra != 0) = true := by simpa using h0
        have H0 := Lib.hid h0; clear h0
        go_wp2_with (go_at_call 26; refine (HCA.out _ hb).mono ?_; rintro e w1 ⟨rfl, hb1⟩; obtain ⟨gx1, hcx1, hfx1⟩ := own_box hb1 hlw hbx.out)
        go_ret
        exact ⟨ret_int (by rw [fit3, if_neg H0.out]), hb.trans (hb1.mono hb.size)⟩
    · obtain rfl := hg.out.1 (by omega)
      by_cases h0 : rb = 0
      · subst h0
        have hz0 : ((0 : Int) != 0) = false := rfl
        go_wp2_with (go_at_call 26; refine (HCB.out _ hb).mono ?_; rintro e w1 ⟨rfl, hb1⟩; obtain ⟨gx1, hcx1, hfx1⟩ := own_box hb1 hlw hbx.out)
        exact ⟨⟨2, by omega, by go_num, Lib.hid ⟨by simp, by simp⟩, Lib.hid gx1, hb.trans (hb1.mono hb.size)⟩, by simp [intOf]⟩
      · have hz0 : (rb != 0) = true := by simpa using h0
        have H0 := Lib.hid h0; clear h0
        go_wp2_with (go_at_call 26; refine (HCB.out _ hb).mono ?_; rintro e w1 ⟨rfl, hb1⟩; obtain ⟨gx1, hcx1, hfx1⟩ := own_box hb1 hlw hbx.out)
        go_ret
        exact ⟨ret_int (by rw [fit3, if_pos rfl, if_neg H0.out]), hb.trans (hb1.mono hb.size)⟩
    · obtain rfl := hg.out.1 (by omega)
      obtain rfl := hg.out.2 (by omega)
      have hls := hb.size
      cases eq
      all_goals
        go_wp2_with (first
          | (go_at_call_of 46 (a1); refine (manifest S _ a _ (HA.out _ hb) hla).mono ?_; rintro e w1 ⟨v1, rfl, ho1, hb1⟩; obtain ⟨ax1, cx1, rfl⟩ := id (Own.shape ho1); have hq1 := hb.trans (hb1.mono hls); have hl1 := hq1.size; have Ho1 := Lib.hid ho1; clear ho1)
          | (go_at_call 46; refine (manifest T _ b _ (HB.out _ hq1) hlb).mono ?_; rintro e w2 ⟨v2, rfl, ho2, hb2⟩; obtain ⟨ax2, cx2, rfl⟩ := id (Own.shape ho2); have hq2 := hq1.trans (hb2.mono hl1); have hl2 := hq2.size; have Ho2 := Lib.hid ho2; clear ho2)
          | (go_at_call 45; refine (HE.out _ _ _ (RSl.mono (fun _ _ _ h => h) (fun _ _ => Nat.zero_le _) (RSl.same (dSlot.stable _) (.of_below hb2) (Own.rsl Ho1.out Hml.out))) (RSl.mono (fun _ _ _ h => h) (fun _ _ => Nat.zero_le _) (Own.rsl Ho2.out Hml2.out))).mono ?_; rintro e w3 ⟨rfl, hb3⟩))
        go_ret
        exact ⟨ret_int (by rfl), hq2.trans (hb3.mono hl2)⟩
end Go.Proofs.YtopdfijojjbjdaaGreat

/- The places at which two counts differ; the contracts of canvass.Compare and of the reference's Unlike and Compare. -/
namespace Go.Proofs.YtopdfijojjbjdaaGreat
open Go Go.RowKit Go.Shelf

def zB : Blt := ⟨0, []⟩
def zC : Btc := ⟨⟨#[]⟩, []⟩
def difRow (i : Nat) (xs ys : List Blt) (n : Nat) : List Place := ((List.range n).filter fun k => !eqBlt (xs.getD k zB) (ys.getD k zB)).map fun (k : Nat) => ⟨(i : Int), (k : Int)⟩
def difAll (a b : List Btc) (n : Nat) : List Place := (List.range n).flatMap fun i => difRow i (a.getD i zC).blts (b.getD i zC).blts (a.getD i zC).blts.length
def placesL (a b : List Btc) : List Place := difAll a b a.length
theorem difRow_eq {i : Nat} {xs ys : List Blt} {k : Nat} (h1 : k < xs.length) (h2 : k < ys.length) (h : eqBlt xs[k] ys[k] = true) : difRow i xs ys (k + 1) = difRow i xs ys k := by
  simp [difRow, List.range_succ, h1, h2, h]
theorem difRow_ne {i : Nat} {xs ys : List Blt} {k : Nat} (h1 : k < xs.length) (h2 : k < ys.length) (h : eqBlt xs[k] ys[k] = false) : difRow i xs ys (k + 1) = difRow i xs ys k ++ [⟨(i : Int), (k : Int)⟩] := by
  simp [difRow, List.range_succ, h1, h2, h]
theorem difAll_succ {a b : List Btc} {k : Nat} (h1 : k < a.length) (h2 : k < b.length) : difAll a b (k + 1) = difAll a b k ++ difRow k a[k].blts b[k].blts a[k].blts.length := by
  simp [difAll, List.range_succ, h1, h2]
theorem difRow_len (i : Nat) (xs ys : List Blt) (n : Nat) : (difRow i xs ys n).length ≤ n := by
  unfold difRow
  rw [List.length_map]
  exact Nat.le_trans (List.length_filter_le _ _) (by simp)
theorem difAll_len {a b : List Btc} (hsm : Small a) : ∀ n, n ≤ a.length → (difAll a b n).length ≤ n * 1000000
  | 0, _ => by simp [difAll]
  | n + 1, hn => by
    have h1 := difAll_len (b := b) hsm n (by omega)
    have h2 : difAll a b (n + 1) = difAll a b n ++ difRow n (a.getD n zC).blts (b.getD n zC).blts (a.getD n zC).blts.length := by simp [difAll, List.range_succ]
    rw [h2, List.length_append]
    have h3 := difRow_len n (a.getD n zC).blts (b.getD n zC).blts (a.getD n zC).blts.length
    have h4 : (a.getD n zC).blts.length ≤ 1000000 := by
      have : a.getD n zC = a[n] := by simp [List.getD, List.getElem?_eq_getElem (show n < a.length by omega)]
      rw [this]
      exact (hsm.2 _ (List.getElem_mem _)).1
    omega
/-- Two counts with one manifest: their rows have one length. -/
def Fitted (a b : List Btc) : Prop := a.length = b.length ∧ ∀ k (h1 : k < a.length) (h2 : k < b.length), a[k].blts.length = b[k].blts.length
theorem fitted {a b : List Btc} {c kind : Int} (h : fitI a b c kind = 0) : Fitted a b ∧ recCheck a c kind = 0 ∧ recCheck b c kind = 0 ∧ eqL eqSlot (maniL a) (maniL b) = true := by
  unfold fitI fit3 at h
  split at h
  · rename_i h1
    split at h
    · rename_i h2
      split at h
      · rename_i h3
        have hl := eqL_len h3
        have hg := eqL_get h3
        simp only [maniL, List.length_map] at hl
        refine ⟨⟨hl, fun k k1 k2 => ?_⟩, h1, h2, h3⟩
        have := hg k (by simpa [maniL] using k1) (by simpa [maniL] using k2)
        simp [maniL, eqSlot] at this
        omega
      · omega
    · exact absurd h ‹_›
  · exact absurd h ‹_›
theorem Own.rebase {α : Type} {lo hi : Nat} {e : TypeId} {n : Nat} {dec : World → List Value → α → Prop} {w : World} {v : Value} {xs : List α} (h : Own hi e n dec w v xs) (hl : lo ≤ hi) : Own lo e n dec w v xs := by
  obtain ⟨cells, ho, hd⟩ := h
  refine ⟨cells, ⟨ho.1, ?_⟩, hd⟩
  rcases ho.2 with h0 | ⟨g, cap, cur, h1, h2, h3⟩
  · exact .inl h0
  · exact .inr ⟨g, cap, cur, h1, Nat.le_trans hl h2, h3⟩
theorem getD_at {α : Type} {l : List α} {k : Nat} (z : α) (h : k < l.length) : l.getD k z = l[k] := by simp [List.getD, h]

/-- What a call of Compare gives. -/
def CmpGives (a b : List Btc) (c kind : Int) (w : World) (e : Ending) (w' : World) : Prop :=
  ∃ v, e = .returned (.tuple #[v, .int .i64 (fitI a b c kind)]) ∧ Own w.heap.size 31 2 dPlace w' v (if fitI a b c kind = 0 then placesL a b else []) ∧ Below w.heap.size w w'
set_option maxHeartbeats 1000000 in
theorem compare_unfit (S T : Nat → Prop) (u v : Value) (a b : List Btc) (c kind : Int) (w : World) (hx : RBtcs S w u a) (hy : RBtcs T w v b) (hla : a.length ≤ 1000000) (hlb : b.length ≤ 1000000) (hf : fitI a b c kind ≠ 0) :
    Calls Tryz.prog 6 #[u, v, .int .i64 c, .int .u8 kind] w (CmpGives a b c kind w) := by
  have hF := canvassFit S T u v a b c kind w hx hy hla hlb
  obtain ⟨a1, cap1, rfl, -, -⟩ := RSl.shape hx
  obtain ⟨a2, cap2, rfl, -, -⟩ := RSl.shape hy
  have hG : ∀ w', Below w.heap.size w w' → CmpGives a b c kind w (.returned (.tuple #[.slice none 0 0, .int .i64 (fitI a b c kind)])) w' := fun w' hb => ⟨_, rfl, by rw [if_neg hf]; exact Own.nil _ _ _ _ _, hb⟩
  generalize fitI a b c kind = I at *
  have hz : (I != 0) = true := by simpa using hf
  have HF := Lib.hid hF; have HG := Lib.hid hG; clear hF hG hf hx hy
  go_enter Tryz.func6, Tryz.ntmps6
  go_wp2_with (go_at_call 20; refine HF.out.mono ?_; rintro e w1 ⟨rfl, hb1⟩)
  go_ret2
  exact HG.out _ hb1
set_option maxHeartbeats 2000000 in
set_option maxRecDepth 100000 in
theorem compare_fit (S T : Nat → Prop) (u v : Value) (a b : List Btc) (c kind : Int) (w : World) (hx : RBtcs S w u a) (hy : RBtcs T w v b) (hsm : Small a) (hlb : b.length ≤ 1000000) (hf : fitI a b c kind = 0) :
    Calls Tryz.prog 6 #[u, v, .int .i64 c, .int .u8 kind] w (CmpGives a b c kind w) := by
  have hF := canvassFit S T u v a b c kind w hx hy hsm.1 hlb
  obtain ⟨a1, cap1, rfl, hx1, hx2⟩ := RSl.shape hx
  obtain ⟨a2, cap2, rfl, hy1, hy2⟩ := RSl.shape hy
  have hft := (fitted hf).1
  have hG : ∀ w' p, Own w.heap.size 31 2 dPlace w' p (placesL a b) → Below w.heap.size w w' → CmpGives a b c kind w (.returned (.tuple #[p, .int .i64 0])) w' := fun w' p ho hb => ⟨_, by rw [hf], by rw [if_pos hf]; exact ho, hb⟩
  rw [hf] at hF
  have HX := Lib.hid hx; have HY := Lib.hid hy; have Hsm := Lib.hid hsm; have HFt := Lib.hid hft; have HF := Lib.hid hF; have HG := Lib.hid hG
  clear hx hy hsm hft hF hG hf
  go_enter Tryz.func6, Tryz.ntmps6
  go_wp2_with (go_at_call 20; refine HF.out.mono ?_; rintro e w1 ⟨rfl, hb0⟩)
  go_loopw [8, 24] (fun s i wr => ∃ k : Nat, k ≤ a.length ∧ i = .int .i64 k ∧ Own w.heap.size 31 2 dPlace wr s (difAll a b k) ∧ Below w.heap.size w wr) (fun _ i _ => a.length - (intOf i).toNat)
  case atStart => exact ⟨0, Nat.zero_le _, rfl, Own.nil _ _ _ _ _, hb0⟩
  case round =>
    obtain ⟨k, hk, rfl, ho, hb⟩ := hrel
    obtain ⟨ao, co, hso⟩ := Own.shape ho
    obtain ⟨n, hn⟩ : ∃ n, (difAll a b k).length = n := ⟨_, rfl⟩
    rw [hn] at hso
    subst hso
    by_cases hlt : k < a.length
    · have hlt2 : k < b.length := by have := HFt.out.1; omega
      obtain ⟨b1, off1, c1, d1, rfl, -, hbw1, hc, hd, hdx⟩ := RSl.at2 HX.out k hlt
      obtain ⟨b2, off2, c2, d2, rfl, -, hbw2, hc2, hd2, hdy⟩ := RSl.at2 HY.out k hlt2
      obtain ⟨ax, capx, rfl, rfl, hlx1, hlx2, hIx⟩ := hdx.open
      obtain ⟨ay, capy, rfl, rfl, hly1, hly2, hIy⟩ := hdy.open
      have HIx := Lib.hid hIx; have HIy := Lib.hid hIy
      have hlen := HFt.out.2 k hlt hlt2
      have Hlen := Lib.hid hlen
      have hcr := (Same.of_below (S := Any) hb).cell trivial hc
      have hdr := (Same.of_below (S := Any) hb).cell trivial hd
      have hsu := difAll_succ hlt hlt2
      have Hsu := Lib.hid hsu
      clear hIx hIy hdx hdy hlen hsu hn
      go_wp2
      obtain ⟨wx, hwx⟩ : ∃ wx, wx = (wr.alloc (.cells #[.string a[k].name, .slice ax a[k].blts.length capx] 55)) := ⟨_, rfl⟩
      have hbx0 : Below w.heap.size w wx := by rw [hwx]; exact hb.trans ((below_new _ _).mono hb.size)
      have hox := (Own.below (S := fun _ => False) (dPlace.stable _) ho (below_new wr (.cells #[.string a[k].name, .slice ax a[k].blts.length capx] 55)))
      rw [← hwx] at hox ⊢
      clear hwx ho
      clear hcr hdr
      obtain ⟨wy, rfl⟩ : ∃ wy, wy = wx := ⟨_, rfl⟩
      go_loopw [8, 32] (fun s i wr => ∃ j : Nat, j ≤ a[k].blts.length ∧ i = .int .i64 j ∧ Own w.heap.size 31 2 dPlace wr s (difAll a b k ++ difRow k a[k].blts b[k].blts j) ∧ Below w.heap.size w wr) (fun _ i _ => a[k].blts.length - (intOf i).toNat)
      case atStart => exact ⟨0, Nat.zero_le _, rfl, by simpa [difRow] using hox, hbx0⟩
      case round =>
        clear hox hbx0
        obtain ⟨j, hj, rfl, ho, hbj⟩ := hrel
        obtain ⟨ao, co, hso⟩ := Own.shape ho
        obtain ⟨n, hn⟩ : ∃ n, (difAll a b k ++ difRow k a[k].blts b[k].blts j).length = n := ⟨_, rfl⟩
        rw [hn] at hso
        subst hso
        have Hn := Lib.hid hn; clear hn
        have hcj := (Same.of_below (S := Any) hbj).cell trivial hc
        have hdj := (Same.of_below (S := Any) hbj).cell trivial hd
        have hcj2 := (Same.of_below (S := Any) hbj).cell trivial hc2
        have hdj2 := (Same.of_below (S := Any) hbj).cell trivial hd2
        by_cases hjl : j < a[k].blts.length
        · have hjl2 : j < b[k].blts.length := by have := Hlen.out; omega
          obtain ⟨b3, off3, c3, d3, rfl, hS3, hbw3, hc3, hd3, hx3⟩ := RSl.at2 HIx.out j hjl
          obtain ⟨b4, off4, c4, d4, rfl, hS4, hbw4, hc4, hd4, hx4⟩ := RSl.at2 HIy.out j hjl2
          have hF := fun W (hW : Below w.heap.size w W) => ballotSame S T _ _ _ _ W ⟨c3, d3, rfl, dBlt.stable S _ _ _ _ (.of_below hW) hx3⟩ ⟨c4, d4, rfl, dBlt.stable T _ _ _ _ (.of_below hW) hx4⟩
          obtain ⟨a5, c5, rfl, rfl, -⟩ := hx3.open
          obtain ⟨a6, c6, rfl, rfl, -⟩ := hx4.open
          obtain ⟨W1, hW1⟩ : ∃ W1, W1 = (wr.alloc (.cells #[.int .u8 a[k].blts[j].kind, .slice a5 a[k].blts[j].marks.length c5] 41)) := ⟨_, rfl⟩
          have hbW : Below w.heap.size w W1 := by rw [hW1]; exact hbj.trans ((below_new _ _).mono hbj.size)
          have hzW := hbW.size
          have hS := Same.of_below (S := Any) hbW
          have e1 := fun p => cell_ext (w := W1) (hS.cell trivial hd) p
          have e2 := fun p => cell_ext (w := W1) (hS.cell trivial hd2) p
          have e3 := fun p => cell_ext (w := W1) (hS.cell trivial hc3) p
          have e4 := fun p => cell_ext (w := W1) (hS.cell trivial hd3) p
          have e5 := fun p => cell_ext (w := W1) (hS.cell trivial hc4) p
          have e6 := fun p => cell_ext (w := W1) (hS.cell trivial hd4) p
          have f3 := (Same.of_below (S := Any) hbj).cell trivial hc3
          have f4 := (Same.of_below (S := Any) hbj).cell trivial hd3
          have hbx : W1.heap[wr.heap.size]? = some (.cells #[.int .u8 a[k].blts[j].kind, .slice a5 a[k].blts[j].marks.length c5] 41 (0, 0)) := by rw [hW1]; exact box_new _ _
          obtain ⟨-, hcb, -⟩ := own_box (Below.refl _ _) (size_of_box hbx) hbx
          have e7 := fun p => cell_ext (w := W1) (hcb 0) p
          have e8 := fun p => cell_ext (w := W1) (hcb 1) p
          clear hbx hcb
          have hO1 : Own w.heap.size 31 2 dPlace W1 (.slice ao n co) (difAll a b k ++ difRow k a[k].blts b[k].blts j) := (by rw [hW1]; exact Own.below (S := fun _ => False) (dPlace.stable _) ho (below_new _ _))
          have HO1 := Lib.hid hO1; clear hO1
          have hl0 : a[k].blts.length ≤ 1000000 := (Hsm.out.2 _ (List.getElem_mem hlt)).1
          have hll := difAll_len (b := b) Hsm.out k (by omega)
          have hrl := difRow_len k a[k].blts b[k].blts j
          have hna : n ≤ 1000000 * 1000000 := by have := Hn.out; rw [List.length_append] at this; have h5 := Hsm.out.1; omega
          clear hll hrl hl0 hS
          have hF1 := fun p => hF (ext W1 p) (hbW.trans ((below_ext W1 p).mono hzW))
          clear hF hx3 hx4 hc3 hd3 hc4 hd4
          cases hq : eqBlt a[k].blts[j] b[k].blts[j]
          · rw [hq] at hF1
            have hnx := difRow_ne (i := k) hjl hjl2 hq
            have HF := Lib.hid hF1; have Hnx := Lib.hid hnx; have Ho := Lib.hid ho; clear hF1 hnx hq ho
            go_wp2
            rw [← hW1]
            clear hW1
            refine wp_region_ext (by kernel_rfl) (by kernel_rfl) ?_
            repeat (go_big_quiet_step ((go_at_call 21; have hh := HF.out; exact calls_ext (v := .bool false) (hh _))))
            refine wpQuiet_nil ?_
            intro w2 hw'
            have hb12 : Below W1.heap.size W1 w2 := by obtain ⟨p, rfl⟩ := hw'; exact below_ext W1 p
            clear hw' e1 e2 e3 e4 e5 e6 e7 e8 HF
            have hb2 := hbW.trans (hb12.mono hzW)
            have hz2 := hb2.size
            have Ho' := Ho.out
            have hOw2 := Own.below (S := fun _ => False) (dPlace.stable _) HO1.out hb12
            have hOw := Own.below (S := fun _ => False) (dPlace.stable _) hOw2 (below_new w2 (.cells #[.int .i64 k, .int .i64 j] 31))
            have hlo := fun b hbk => (Own.lt hOw b hbk).1
            have hu : RSl (From 0) 2 dPlace (w2.alloc (.cells #[.int .i64 k, .int .i64 j] 31)) (.slice (some ⟨w2.heap.size, 0, none⟩) 1 1) [(⟨(k : Int), (j : Int)⟩ : Place)] := RSl.built (cs := [.int .i64 k, .int .i64 j]) (Nat.zero_le _) (box_new _ _) rfl ⟨rfl, wf_len (by omega), wf_len (by omega)⟩
            have HOw := Lib.hid hOw; have Hu := Lib.hid hu; have Hlo := Lib.hid hlo; clear hOw hOw2 hu hlo Ho' HO1 Ho hbW hzW hb12
            go_wp2_with (at_builtin; go_must (refine wpList_app _ Tryz.infoPlace rfl rfl Tryz.underlying25 ⟨rfl, by omega, by omega⟩ dPlace.one (dPlace.stable (fun _ => False)) w.heap.size HOw.out rfl Hu.out rfl (by rw [Hn.out]; simp only [List.length_cons, List.length_nil]; omega) (by simp; omega) ?_); intro a1 c1 w3 hg hat ho1; have ho2 := ho1 (fun _ _ h => h.elim); have hb3 := (hb2.trans (below_new _ _ |>.mono hz2)).grown hg (by simp; omega) Hlo.out; have Ho2 := Lib.hid ho2; have Hg := Lib.hid hg; have Hat := Lib.hid hat; clear ho1 ho2 hg hat)
            exact ⟨⟨j + 1, by omega, by go_num, by have h3 := Ho2.out; rw [List.length_append, List.length_append, List.append_assoc, Nat.add_assoc] at h3; rw [Hnx.out]; exact h3, hb3⟩, by simp [intOf]; omega⟩
          · rw [hq] at hF1
            have hnx := difRow_eq (i := k) hjl hjl2 hq
            have HF := Lib.hid hF1; have Hnx := Lib.hid hnx; have Ho := Lib.hid ho; clear hF1 hnx hq ho
            go_wp2
            rw [← hW1]
            clear hW1
            refine wp_region_ext (by kernel_rfl) (by kernel_rfl) ?_
            repeat (go_big_quiet_step ((go_at_call 21; have hh := HF.out; exact calls_ext (v := .bool true) (hh _))))
            refine wpQuiet_nil ?_
            intro w2 hw'
            have hb12 : Below W1.heap.size W1 w2 := by obtain ⟨p, rfl⟩ := hw'; exact below_ext W1 p
            clear hw' e1 e2 e3 e4 e5 e6 e7 e8 HF
            have hb2 := hbW.trans (hb12.mono hzW)
            have hOw2 := Own.below (S := fun _ => False) (dPlace.stable _) HO1.out hb12
            have HOw2 := Lib.hid hOw2; clear hOw2
            go_wp2
            exact ⟨⟨j + 1, by omega, by go_num, by rw [Hnx.out]; exact HOw2.out, hb2⟩, by simp [intOf]; omega⟩
        · have hj' : j = a[k].blts.length := by omega
          subst hj'
          have Ho := Lib.hid ho; clear ho
          go_wp2
          exact ⟨⟨k + 1, by omega, by go_num, by rw [Hsu.out]; exact Ho.out, hbj⟩, by simp [intOf]; omega⟩
    · have hk' : k = a.length := by omega
      subst hk'
      have Ho := Lib.hid ho; clear ho
      go_wp2
      go_ret2
      exact HG.out _ _ Ho.out hb

theorem canvassCompare (S T : Nat → Prop) (u v : Value) (a b : List Btc) (c kind : Int) (w : World) (hx : RBtcs S w u a) (hy : RBtcs T w v b) (hsm : Small a) (hlb : b.length ≤ 1000000) :
    Calls Tryz.prog 6 #[u, v, .int .i64 c, .int .u8 kind] w (CmpGives a b c kind w) := by
  by_cases hf : fitI a b c kind = 0
  · exact compare_fit S T u v a b c kind w hx hy hsm hlb hf
  · exact compare_unfit S T u v a b c kind w hx hy hsm.1 hlb hf
end Go.Proofs.YtopdfijojjbjdaaGreat

/- Maps of the call's own, by what they hold at each key; over any program. -/
namespace Go.Proofs.YtopdfijojjbjdaaGreat
open Go Go.RowKit Go.Maps

/-- The function, turned at one key. -/
noncomputable def upd (f : Lit → Option Lit) (k d : Lit) : Lit → Option Lit := fun l => @ite _ (l = k) (Classical.propDecidable _) (some d) (f l)
theorem upd_same (f : Lit → Option Lit) (k d : Lit) : upd f k d k = some d := by unfold upd; exact if_pos rfl
theorem upd_other (f : Lit → Option Lit) {k d l : Lit} (h : l ≠ k) : upd f k d l = f l := by unfold upd; exact if_neg h
/-- Block b is a map of at most n entries that holds f. -/
def MapF (w : World) (P : Program) (k e : TypeId) (b n : Nat) (f : Lit → Option Lit) : Prop :=
  ∃ D : DataW Unit, w.ownsMap P k (plainElem P e) b n D ∧ ∀ kl, (∀ z, D.atKey kl z = match f kl with | some d => .lit d | none => z) ∧ Maps.has D kl = (f kl).isSome
section
variable {P : Program} {w : World} {k e : TypeId} {b n : Nat} {f : Lit → Option Lit}
theorem MapF.made (w : World) (P : Program) (k e : TypeId) : MapF (w.alloc (.map #[] 0)) P k e w.heap.size 0 (fun _ => none) :=
  ⟨_, World.ownsMap_made w P k _, fun _ => ⟨fun _ => rfl, rfl⟩⟩
theorem MapF.kept {w' : World} {row : Option Nat} (h : MapF w P k e b n f) (hg : w.grownBy w' row) (hne : some b ≠ row) : MapF w' P k e b n f := let ⟨D, h1, h2⟩ := h; ⟨D, h1.kept hg hne, h2⟩
theorem MapF.lt (h : MapF w P k e b n f) : b < w.heap.size := let ⟨_, h1, _⟩ := h; h1.lt
theorem MapF.below {w' : World} (h : MapF w P k e b n f) (hb : Below w.heap.size w w') : MapF w' P k e b n f := h.kept (grownBy_of_below hb) (by simp)
theorem MapF.setCell (h : MapF w P k e b n f) {a : Addr} (ha : b ≠ a.block) (u : Value) : MapF (w.setCell a u) P k e b n f := let ⟨D, h1, h2⟩ := h; ⟨D, h1.setCell ha u, h2⟩
theorem plainElem_bool_inv (he : P.underlying e = some .bool) {v : Value} {z : DataW Unit × List MemPlace} (h : plainElem P e v = some z) : ∃ x, v = .bool x ∧ z = (.lit (.bool x), []) := by
  unfold plainElem at h
  rw [he] at h
  cases v <;> simp at h
  obtain rfl := h
  exact ⟨_, rfl, rfl⟩
def isTrue : Option Lit → Bool
  | some (.bool true) => true
  | _ => false
theorem MapF.look_bool {t : TypeId} (h : MapF w P k e b n f) (K : Keyed P k) (ht : P.underlying t = some (.map k e)) (he : P.underlying e = some .bool) (hz : (zeroValue e).run P w = .ok (.bool false) w) {key : Value} {kl : Lit} (hkey : keyOf P k key = some kl) :
    (Instr.lookup t (.map (some b)) key false).run P w = .ok (.bool (isTrue (f kl))) w := by
  obtain ⟨D, h1, h2⟩ := h
  obtain ⟨v, ps, hrun, hv⟩ := h1.lookup K ht hz (plainElem_bool he false) hkey
  obtain ⟨x, rfl, hx⟩ := plainElem_bool_inv he hv
  rw [(h2 kl).1] at hx
  rw [hrun]
  cases hf : f kl with
  | none => rw [hf] at hx; simp at hx; obtain ⟨rfl, -⟩ := hx; rfl
  | some d => rw [hf] at hx; simp at hx; obtain ⟨rfl, -⟩ := hx; cases x <;> rfl
theorem MapF.look_ok {t : TypeId} {q : IntKind} (h : MapF w P k e b n f) (K : Keyed P k) (ht : P.underlying t = some (.map k e)) (he : P.underlying e = some (.int q)) (hz : (zeroValue e).run P w = .ok (.int q 0) w) {key : Value} {kl : Lit} (hkey : keyOf P k key = some kl) :
    (f kl = none → (Instr.lookup t (.map (some b)) key true).run P w = .ok (.tuple #[.int q 0, .bool false]) w) ∧
      ∀ c, f kl = some (.int q c) → (Instr.lookup t (.map (some b)) key true).run P w = .ok (.tuple #[.int q c, .bool true]) w := by
  obtain ⟨D, h1, h2⟩ := h
  obtain ⟨v, ps, hrun, hv⟩ := h1.look_ok K ht hz (plainElem_int he (by cases q <;> decide)) hkey
  obtain ⟨x, rfl, hx, -⟩ := plainElem_int_inv he hv
  rw [(h2 kl).1] at hx
  rw [(h2 kl).2] at hrun
  refine ⟨fun hf => ?_, fun c hf => ?_⟩
  · rw [hrun]
    rw [hf] at hx ⊢
    simp at hx
    obtain ⟨rfl, -⟩ := hx
    rfl
  · rw [hrun]
    rw [hf] at hx ⊢
    simp at hx
    obtain ⟨rfl, -⟩ := hx
    rfl
theorem MapF.put {D : DataW Unit} (hD : IsMap D) {kl : Lit} (hk : WideAt.IsKeyLit kl) {d : Lit} (h2 : ∀ kl, (∀ z, D.atKey kl z = match f kl with | some d => .lit d | none => z) ∧ Maps.has D kl = (f kl).isSome) :
    ∀ l, (∀ z, (D.put kl (.lit d)).atKey l z = match upd f kl d l with | some d => .lit d | none => z) ∧ Maps.has (D.put kl (.lit d)) l = (upd f kl d l).isSome := by
  intro l
  by_cases h : l = kl
  · subst h
    rw [upd_same]
    exact ⟨fun z => atKey_put_same hD hk _ z, has_put_same hD hk _⟩
  · rw [upd_other f h]
    exact ⟨fun z => (atKey_put_other h _ z).trans ((h2 l).1 z), (has_put_other h _).trans (h2 l).2⟩
end
/-- 'm[k] = v' at the operation. -/
theorem wpList_mapF {P : Program} (w : World) {ops : Array Oper} {rest : List Oper} {o : Oper} {a : Act} {Q : Exit → Act → World → Prop}
    (hg : o.guard = none) (m x v : Operand) (t : TypeId) (hop : o.op = Op.mapUpdate t m x v)
    (k e : TypeId) (K : Keyed P k) (ht : P.underlying t = some (.map k e)) (b n : Nat) (f : Lit → Option Lit)
    (hm : a.eval m = .map (some b)) (hown : MapF w P k e b n f) (hn : n < maxLen) (key val : Value) (kl : Lit) (hx : a.eval x = key) (hv : a.eval v = val) (hkey : keyOf P k key = some kl) (hk : WideAt.IsKeyLit kl)
    (d : Lit) (hval : plainElem (H := Unit) P e val = some (.lit d, []))
    (hK : ∀ w', MapF w' P k e b (n + 1) (upd f kl d) → w.grownBy w' (some b) → wpList P ops Q rest (a.put o.dst undef) w') :
    wpList P ops Q (o :: rest) a w := by
  obtain ⟨D, h1, h2⟩ := hown
  exact wpList_mapUpdate_own w hg m x v t hop k e K ht _ b n D hm h1 hn key val kl hx hv hkey (.lit d) [] hval fun w' h3 h4 => hK w' ⟨_, h3, MapF.put h1.isMap hk h2⟩ h4
end Go.Proofs.YtopdfijojjbjdaaGreat

/- The contracts on manifests: canvass.named, the reference's GreatSlots, both Checks. -/
namespace Go.Proofs.YtopdfijojjbjdaaGreat
open Go Go.RowKit Go.Shelf Go.Maps Go.WideMaps

set_option maxHeartbeats 400000 in
theorem bad_predC (w : World) : PredAt Tryz.prog 88 #[] encR badRune w := by
  intro W r _
  unfold FnGives
  by_cases h1 : r < 33
  · have hb : badRune r = true := by simp [badRune, h1]
    have Hb := Lib.hid hb; clear hb
    have h1' : (r : Int) < 33 := by omega
    go_enter Tryz.func88, Tryz.ntmps88
    go_wp2
    go_ret
    exact ⟨ret_bool Hb.out.symm, 0, rfl⟩
  · by_cases h2 : 126 < r
    · have hb : badRune r = true := by simp [badRune, h2]
      have Hb := Lib.hid hb; clear hb
      have h1' : ¬ (r : Int) < 33 := by omega
      have h2' : (126 : Int) < r := by omega
      go_enter Tryz.func88, Tryz.ntmps88
      go_wp2
      go_ret
      exact ⟨ret_bool Hb.out.symm, 0, rfl⟩
    · have hb : badRune r = false := by rw [badRune, decide_eq_false h1, decide_eq_false h2]; rfl
      have Hb := Lib.hid hb; clear hb
      have h1' : ¬ (r : Int) < 33 := by omega
      have h2' : ¬ (126 : Int) < r := by omega
      go_enter Tryz.func88, Tryz.ntmps88
      go_wp2
      go_ret
      exact ⟨ret_bool (by rw [Hb.out]), 0, rfl⟩

set_option maxHeartbeats 400000 in
theorem namedC (s : ByteArray) (w : World) (hs : s.size ≤ 140737488355328) :
    Calls Tryz.prog 61 #[.string s] w fun e w' => e = .returned (.bool (nameB s)) ∧ Below w.heap.size w w' := by
  have hC := fun W => Tryz.strings_ContainsFunc 88 #[] (enters_of Tryz.func88 (by kernel_rfl) rfl) badRune s W (bad_predC W)
  have HC := Lib.hid hC; clear hC
  go_enter Tryz.func61, Tryz.ntmps61
  go_wp2_with (go_at_call 87; refine (HC.out _).mono ?_; rintro e w1 ⟨rfl, hb1⟩)
  · have h0 : s.toList = [] := by assumption
    rw [ByteArray.toList_eq] at h0
    have h1 : s.size = 0 := by have := congrArg List.length h0; simpa using this
    go_ret
    exact ⟨ret_bool (by simp [nameB, h1]), Below.refl _ _⟩
  · have h0 : ¬ s.toList = [] := by assumption
    have h2 : (s.size : Int) ≤ 40 := by assumption
    have h1 : 1 ≤ s.size := by
      rcases Nat.eq_zero_or_pos s.size with h | h
      · rw [ByteArray.toList_eq] at h0
        exact absurd (List.eq_nil_of_length_eq_zero (by simpa using h)) h0
      · exact h
    have h3 : s.size ≤ 40 := by omega
    go_ret
    refine ⟨ret_bool ?_, hb1⟩
    rw [idx_name, Bool.not_not, nameB, decide_eq_true h1, decide_eq_true h3]
    have : s.toList.isEmpty = false := by simpa using h0
    simp [this]
  · have h2 : 40 < (s.size : Int) := by assumption
    go_ret
    have h3 : ¬ s.size ≤ 40 := by omega
    exact ⟨ret_bool (by simp [nameB, h3]), Below.refl _ _⟩
def fineS (s : Slot) : Bool := nameB s.name && decide (0 ≤ s.many ∧ s.many ≤ 64)
def zS : Slot := ⟨⟨#[]⟩, 0⟩
def okAtS (m : List Slot) (k : Nat) : Bool := fineS (m.getD k zS) && !((m.take k).any fun t => sameName t.name (m.getD k zS).name)
def chkS (m : List Slot) : Int := if 16 < m.length then 4 else if (List.range m.length).all (okAtS m) then 0 else 8
theorem range_bad {p : Nat → Bool} {n k : Nat} (hk : k < n) (h : p k = false) : (List.range n).all p = false := by
  cases hb : (List.range n).all p
  · rfl
  · rw [List.all_eq_true] at hb
    rw [hb k (List.mem_range.2 hk)] at h
    cases h
theorem okAtS_of {m : List Slot} {k : Nat} (hk : k < m.length) : okAtS m k = (fineS m[k] && !((m.take k).any fun t => sameName t.name m[k].name)) := by simp only [okAtS, getD_at zS hk]
theorem chkS_bad {m : List Slot} {k : Nat} (h16 : ¬ 16 < m.length) (hk : k < m.length) (h : okAtS m k = false) : chkS m = 8 := by rw [chkS, if_neg h16, range_bad hk h]; rfl
theorem sameName_eq (a b : ByteArray) : sameName a b = decide (a.data.toList = b.data.toList) := by rw [sameName, ByteArray.toList_eq, ByteArray.toList_eq, Bool.eq_iff_iff]; simp
theorem sameName_comm (a b : ByteArray) : sameName a b = sameName b a := by rw [sameName_eq, sameName_eq]; exact decide_eq_decide.2 eq_comm

set_option maxHeartbeats 2000000 in
set_option maxRecDepth 100000 in
theorem canvassCheck (S : Nat → Prop) (v : Value) (m : List Slot) (w : World) (h : RSl S 2 dSlot w v m) :
    Calls Tryz.prog 38 #[v] w fun e w' => e = .returned (.int .i64 (chkS m)) ∧ Below w.heap.size w w' := by
  obtain ⟨a, cap, rfl, h1, h2⟩ := RSl.shape h
  by_cases h16 : 16 < m.length
  · have hr : chkS m = 4 := by rw [chkS, if_pos h16]
    have Hr := Lib.hid hr; clear hr
    go_enter Tryz.func38, Tryz.ntmps38
    go_wp2
    go_ret
    exact ⟨ret_int Hr.out.symm, Below.refl _ _⟩
  have hmm := @run_makeMap Tryz.prog
  go_enter Tryz.func38, Tryz.ntmps38
  go_wp2
  clear hmm
  have Hmf := Lib.hid (MapF.made w Tryz.prog 9 4)
  have hb0 := below_new w (.map #[] 0)
  go_loopw [12] (fun i wr => ∃ (k : Nat) (f : Lit → Option Lit), k ≤ m.length ∧ i = .int .i64 k ∧ Hid ((List.range k).all (okAtS m) = true) ∧ Hid (MapF wr Tryz.prog 9 4 w.heap.size k f) ∧ Hid (∀ L, isTrue (f (.string L)) = (m.take k).any fun t => decide (t.name.data.toList = L)) ∧ Below w.heap.size w wr) (fun i _ => m.length - (intOf i).toNat)
  case atStart => exact ⟨0, _, Nat.zero_le _, rfl, Lib.hid rfl, Hmf, Lib.hid (fun L => by simp [isTrue]), hb0⟩
  case round =>
    clear Hmf hb0
    obtain ⟨k, f, hk, rfl, hok, hmf, hfx, hb⟩ := hrel
    by_cases hlt : k < m.length
    · obtain ⟨b, off, c, d, rfl, hS, hbw, hc, hd, hx⟩ := RSl.at2 (RSl.same (dSlot.stable _) (.of_below hb) h) k hlt
      obtain ⟨⟨rfl, rfl⟩, hn, hwf⟩ := hx.open
      have hat := okAtS_of hlt
      have hbad : okAtS m k = false → chkS m = 8 := chkS_bad h16 hlt
      have hkey : keyOf Tryz.prog 9 (.string m[k].name) = some (.string m[k].name.data.toList) := keyOf_string_mk Tryz.underlying9 (by unfold maxLen; omega)
      have hfk := hfx.out m[k].name.data.toList
      have hN := fun W => namedC m[k].name W hn
      have hlk := fun W (hW : Below wr.heap.size wr W) => (hmf.out.below hW).look_bool (string_keyed Tryz.underlying9) Tryz.underlying98 Tryz.underlying4 (by kernel_rfl) hkey
      have hfe : (m.take k).any (fun t => sameName t.name m[k].name) = isTrue (f (.string m[k].name.data.toList)) := by rw [hfk]; congr 1; funext t; exact sameName_eq _ _
      rw [hfe, fineS] at hat
      have hts : (m.take (k + 1)).any = (m.take (k + 1)).any := rfl
      have hnew : ∀ L, (m.take (k + 1)).any (fun t => decide (t.name.data.toList = L)) = ((m.take k).any (fun t => decide (t.name.data.toList = L)) || decide (m[k].name.data.toList = L)) := fun L => any_take_succ _ _ _ hlt
      have hrs : (List.range (k + 1)).all (okAtS m) = ((List.range k).all (okAtS m) && okAtS m k) := all_range_succ _ _
      have hwm := wf_i64 hwf
      have Hat := Lib.hid hat; have Hbad := Lib.hid hbad; have Hkey := Lib.hid hkey; have Hnew := Lib.hid hnew; have Hrs := Lib.hid hrs; have Hfk := Lib.hid hfk
      clear hat hbad hkey hfk hx hfe hts hnew hrs hwf
      have hlr := hb.size
      have hlw := hmf.out.lt
      cases hn1 : nameB m[k].name
      · rw [hn1] at hN
        have HN := Lib.hid hN; have Hn1 := Lib.hid hn1; clear hN hn1 hlk
        go_wp2_with (go_at_call 61; refine (HN.out _).mono ?_; rintro e w1 ⟨rfl, hb1⟩; have hq1 := (below_new _ _).trans (hb1.mono (by simp)))
        go_ret
        exact ⟨ret_int (Hbad.out (by rw [Hat.out, Hn1.out]; simp)).symm, hb.trans (hq1.mono hlr)⟩
      rw [hn1] at hN
      have HN := Lib.hid hN; have Hn1 := Lib.hid hn1; clear hN hn1
      cases hit : isTrue (f (.string m[k].name.data.toList))
      case true =>
        rw [hit] at hlk
        have Hlk := Lib.hid hlk; have Hit := Lib.hid hit; clear hlk hit
        go_wp2_with (go_at_call 61; refine (HN.out _).mono ?_; rintro e w1 ⟨rfl, hb1⟩; have hq1 := (below_new _ _).trans (hb1.mono (by simp)); obtain ⟨gx1, hcx1, hfx1⟩ := own_box hb1 (by simp) (box_new _ _); have hlt1 := size_of_box gx1; have hlk1 := Hlk.out _ hq1)
        go_ret
        exact ⟨ret_int (Hbad.out (by rw [Hat.out, Hit.out]; simp)).symm, hb.trans (hq1.mono hlr)⟩
      rw [hit] at hlk
      have Hlk := Lib.hid hlk; have Hit := Lib.hid hit; clear hlk hit
      by_cases m1 : m[k].many < 0
      · go_wp2_with (go_at_call 61; refine (HN.out _).mono ?_; rintro e w1 ⟨rfl, hb1⟩; have hq1 := (below_new _ _).trans (hb1.mono (by simp)); obtain ⟨gx1, hcx1, hfx1⟩ := own_box hb1 (by simp) (box_new _ _); have hlt1 := size_of_box gx1; have hlk1 := Hlk.out _ hq1)
        go_ret
        exact ⟨ret_int (Hbad.out (by rw [Hat.out, decide_eq_false (by omega)]; simp)).symm, hb.trans (hq1.mono hlr)⟩
      by_cases m2 : 64 < m[k].many
      · go_wp2_with (go_at_call 61; refine (HN.out _).mono ?_; rintro e w1 ⟨rfl, hb1⟩; have hq1 := (below_new _ _).trans (hb1.mono (by simp)); obtain ⟨gx1, hcx1, hfx1⟩ := own_box hb1 (by simp) (box_new _ _); have hlt1 := size_of_box gx1; have hlk1 := Hlk.out _ hq1)
        go_ret
        exact ⟨ret_int (Hbad.out (by rw [Hat.out, decide_eq_false (by omega)]; simp)).symm, hb.trans (hq1.mono hlr)⟩
      go_wp2_with (first
        | (go_at_call 61; refine (HN.out _).mono ?_; rintro e w1 ⟨rfl, hb1⟩; have hq1 := (below_new _ _).trans (hb1.mono (by simp)); obtain ⟨gx1, hcx1, hfx1⟩ := own_box hb1 (by simp) (box_new _ _); have hlt1 := size_of_box gx1; have hlk1 := Hlk.out _ hq1; have hl1 := hq1.size)
        | (at_mapUpdate; refine wpList_mapF _ rfl _ _ _ 98 rfl 9 4 (string_keyed Tryz.underlying9) Tryz.underlying98 w.heap.size k f rfl (hmf.out.below hq1) (by unfold maxLen; omega) _ _ _ rfl rfl Hkey.out trivial (.bool true) (plainElem_bool Tryz.underlying4 true) ?_; intro w6 hm6 hg6; have Hm6 := Lib.hid hm6; have Hg6 := Lib.hid hg6; clear hm6 hg6))
      refine ⟨⟨k + 1, _, by omega, by go_num, Lib.hid (by rw [Hrs.out, hok.out, Hat.out, Hn1.out, Hit.out, decide_eq_true (by omega)]; rfl), Hm6, Lib.hid (fun L => ?_), (hb.trans (hq1.mono hlr)).grown Hg6.out (by omega) (fun j hj => by cases hj; omega)⟩, by simp [intOf]; omega⟩
      rw [Hnew.out L]
      by_cases he : L = m[k].name.data.toList
      · subst he; rw [upd_same]; simp [isTrue]
      · rw [upd_other f (fun h => he (by injection h)), hfx.out L, decide_eq_false (fun h => he h.symm), Bool.or_false]
    · have hk' : k = m.length := by omega
      subst hk'
      go_wp2
      go_ret
      exact ⟨ret_int (by rw [chkS, if_neg h16, if_pos hok.out]), hb⟩

end Go.Proofs.YtopdfijojjbjdaaGreat

/- Findings: how they read; the contracts of the reference's SameFindings and of, and of findings.put; what Reconcile finds, as a list. -/
namespace Go.Proofs.YtopdfijojjbjdaaGreat
open Go Go.RowKit Go.Shelf Go.Maps

structure Fnd where
  kind : Int
  name : ByteArray
  want : Int
  has : Int
def dFnd (_ : World) (cs : List Value) (x : Fnd) : Prop := cs = [.int .u8 x.kind, .string x.name, .int .i64 x.want, .int .i64 x.has] ∧ (Lit.int .u8 x.kind).wf = true ∧ x.name.size ≤ 140737488355328 ∧ (Lit.int .i64 x.want).wf = true ∧ (Lit.int .i64 x.has).wf = true
theorem dFnd.stable (S : Nat → Prop) : Stable S dFnd := fun _ _ _ _ _ h => h
theorem dFnd.one : OneC dFnd := by
  intro w cs x h u hu; obtain ⟨rfl, _⟩ := h; simp at hu; rcases hu with rfl | rfl | rfl | rfl <;> rfl
theorem dFnd.open {w : World} {c d e f : Value} {x : Fnd} (h : dFnd w [c, d, e, f] x) : (c = .int .u8 x.kind ∧ d = .string x.name ∧ e = .int .i64 x.want ∧ f = .int .i64 x.has) ∧ (Lit.int .u8 x.kind).wf = true ∧ x.name.size ≤ 140737488355328 ∧ (Lit.int .i64 x.want).wf = true ∧ (Lit.int .i64 x.has).wf = true := by simpa [dFnd] using h
def eqFnd (x y : Fnd) : Bool := decide (x.kind = y.kind) && (sameName x.name y.name && (decide (x.want = y.want) && decide (x.has = y.has)))
theorem eqFnd_refl (x : Fnd) : eqFnd x x = true := by simp [eqFnd, sameName]
theorem Tryz.infoFnd : (Tryz.prog.info? 65).map (fun i => (i.zero, i.size, i.bytes)) = some (some (.agg #[.int .u8 0, .string ⟨#[]⟩, .int .i64 0, .int .i64 0]), 4, 40) := by kernel_rfl
theorem Tryz.fieldsFnd : Tryz.prog.underlying 65 = some (.struct (Tryz.prog.fieldsOf 65)) := by kernel_rfl
theorem Tryz.heldFnd : Tryz.prog.stoodInHeld 65 = false := by kernel_rfl
theorem neqFnd (w : World) {w1 w2 : World} {c d e f c' d' e' f' : Value} {x y : Fnd} (h : dFnd w1 [c, d, e, f] x) (k : dFnd w2 [c', d', e', f'] y) :
    (binOp .neq 65 (.agg #[c, d, e, f]) (.agg #[c', d', e', f'])).run Tryz.prog w = .ok (.bool (!eqFnd x y)) w := by
  obtain ⟨⟨rfl, rfl, rfl, rfl⟩, -⟩ := h.open
  obtain ⟨⟨rfl, rfl, rfl, rfl⟩, -⟩ := k.open
  rw [run_neq_struct, run_equalIn_agg _ _ _ _ _ Tryz.fieldsFnd Tryz.heldFnd]
  simp [go_sem, Tryz.underlying65, Tryz.underlying9, Tryz.underlying3, Tryz.underlying5]
  by_cases h0 : x.kind = y.kind <;> by_cases h1 : x.name.toList = y.name.toList <;> by_cases h2 : x.want = y.want <;> by_cases h3 : x.has = y.has <;> simp [h0, h1, h2, h3, eqFnd, sameName]
theorem RSl.at4 {α : Type} {S : Nat → Prop} {dec : World → List Value → α → Prop} {w : World} {a : Option Addr} {n cap : Nat} {xs : List α} (h : RSl S 4 dec w (.slice a n cap) xs) (k : Nat) (hk : k < xs.length) :
    ∃ b off c0 c1 c2 c3, a = some ⟨b, off, none⟩ ∧ S b ∧ b < w.heap.size ∧ w.cell? ⟨b, off + k * 4, none⟩ = some c0 ∧ w.cell? ⟨b, off + k * 4 + 1, none⟩ = some c1 ∧ w.cell? ⟨b, off + k * 4 + 2, none⟩ = some c2 ∧ w.cell? ⟨b, off + k * 4 + 3, none⟩ = some c3 ∧ dec w [c0, c1, c2, c3] xs[k] := by
  obtain ⟨a', cap', cells, hv, _, _, hD, h4⟩ := h
  simp only [Value.slice.injEq] at hv
  obtain ⟨rfl, rfl, rfl⟩ := hv
  rcases h4 with h4 | ⟨b, off, rfl, hS, hc⟩
  · subst h4; simp at hk
  have hl : k * 4 + 3 < cells.length := by rw [hD.1]; omega
  have h0 := hc (k * 4) _ (List.getElem?_eq_getElem (by omega))
  refine ⟨b, off, _, _, _, _, rfl, hS, lt_of_cell h0, h0, hc (k * 4 + 1) _ (List.getElem?_eq_getElem (by omega)), hc (k * 4 + 2) _ (List.getElem?_eq_getElem (by omega)), hc (k * 4 + 3) _ (List.getElem?_eq_getElem (by omega)), ?_⟩
  have := hD.2 k hk
  rwa [List.drop_eq_getElem_cons (by omega), List.drop_eq_getElem_cons (by omega), List.drop_eq_getElem_cons (by omega), List.drop_eq_getElem_cons hl, List.take_succ_cons, List.take_succ_cons, List.take_succ_cons, List.take_succ_cons, List.take_zero] at this

set_option maxHeartbeats 1000000 in
theorem sameFnds (S T : Nat → Prop) (u v : Value) (xs ys : List Fnd) (w : World) (hx : RSl S 4 dFnd w u xs) (hy : RSl T 4 dFnd w v ys) :
    Calls Tryz.prog 18 #[u, v] w fun e w' => e = .returned (.bool (eqL eqFnd xs ys)) ∧ Below w.heap.size w w' := by
  obtain ⟨a1, cap1, rfl, hx1, hx2⟩ := RSl.shape hx
  obtain ⟨a2, cap2, rfl, hy1, hy2⟩ := RSl.shape hy
  by_cases hl : xs.length = ys.length
  case neg =>
    have hl' : ((xs.length : Int) != (ys.length : Int)) = true := by simpa using (by omega : ¬ (xs.length : Int) = ys.length)
    have hr := eqL_ne_len (p := eqFnd) hl
    have Hr := Lib.hid hr; clear hr hl
    go_enter Tryz.func18, Tryz.ntmps18
    go_wp2
    go_ret
    exact ⟨ret_bool Hr.out.symm, Below.refl _ _⟩
  have hl' : ((xs.length : Int) != (ys.length : Int)) = false := by simpa using (by omega : (xs.length : Int) = ys.length)
  have Hl := Lib.hid hl; clear hl
  go_enter Tryz.func18, Tryz.ntmps18
  go_wp2
  go_loopw [5] (fun i wr => ∃ k : Nat, k ≤ xs.length ∧ i = .int .i64 k ∧ Hid (∀ j (h1 : j < xs.length) (h2 : j < ys.length), j < k → eqFnd xs[j] ys[j] = true) ∧ Below w.heap.size w wr) (fun i _ => xs.length - (intOf i).toNat)
  case atStart => exact ⟨0, Nat.zero_le _, rfl, Lib.hid (fun _ _ _ h => by omega), Below.refl _ _⟩
  case round =>
    obtain ⟨k, hk, rfl, hg, hb⟩ := hrel
    by_cases hlt : k < xs.length
    · have hlt2 : k < ys.length := by have := Hl.out; omega
      obtain ⟨b, off, c0, c1, c2, c3, rfl, -, hbw, hc0, hc1, hc2, hc3, hv⟩ := RSl.at4 hx k hlt
      obtain ⟨b2, off2, d0, d1, d2, d3, rfl, -, hbw2, hd0, hd1, hd2, hd3, hv2⟩ := RSl.at4 hy k hlt2
      have hq : ∀ w : World, (binOp .neq 65 (.agg #[c0, c1, c2, c3]) (.agg #[d0, d1, d2, d3])).run Tryz.prog w = .ok (.bool (!eqFnd xs[k] ys[k])) w := fun w => neqFnd w hv hv2
      obtain ⟨⟨rfl, rfl, rfl, rfl⟩, -⟩ := hv.open
      obtain ⟨⟨rfl, rfl, rfl, rfl⟩, -⟩ := hv2.open
      have ec0 := fun p => cell_ext (w := wr) ((Same.of_below (S := Any) hb).cell trivial hc0) p
      have ec1 := fun p => cell_ext (w := wr) ((Same.of_below (S := Any) hb).cell trivial hc1) p
      have ec2 := fun p => cell_ext (w := wr) ((Same.of_below (S := Any) hb).cell trivial hc2) p
      have ec3 := fun p => cell_ext (w := wr) ((Same.of_below (S := Any) hb).cell trivial hc3) p
      have ed0 := fun p => cell_ext (w := wr) ((Same.of_below (S := Any) hb).cell trivial hd0) p
      have ed1 := fun p => cell_ext (w := wr) ((Same.of_below (S := Any) hb).cell trivial hd1) p
      have ed2 := fun p => cell_ext (w := wr) ((Same.of_below (S := Any) hb).cell trivial hd2) p
      have ed3 := fun p => cell_ext (w := wr) ((Same.of_below (S := Any) hb).cell trivial hd3) p
      clear hc0 hd0 hc1 hd1 hc2 hd2 hc3 hd3 hv hv2
      cases he : eqFnd xs[k] ys[k]
      · rw [he] at hq
        have hr := eqL_ne_at (p := eqFnd) k hlt hlt2 he
        have Hr := Lib.hid hr; clear he hr
        go_wp2
        refine wp_region_ext (by kernel_rfl) (by kernel_rfl) ?_
        repeat (go_big_quiet_step (fail))
        refine wpQuiet_nil ?_
        intro _ hw'; obtain ⟨p, rfl⟩ := hw'
        go_wp2
        go_ret
        exact ⟨ret_bool Hr.out.symm, hb.trans ((below_ext wr p).mono hb.size)⟩
      · rw [he] at hq
        have He := Lib.hid he; clear he
        go_wp2
        refine wp_region_ext (by kernel_rfl) (by kernel_rfl) ?_
        repeat (go_big_quiet_step (fail))
        refine wpQuiet_nil ?_
        intro _ hw'; obtain ⟨p, rfl⟩ := hw'
        go_wp2
        refine ⟨⟨k + 1, by omega, by go_num, Lib.hid (fun j h1 h2 hj => ?_), hb.trans ((below_ext wr p).mono hb.size)⟩, by simp [intOf]; omega⟩
        by_cases e : j = k
        · subst e; exact He.out
        · exact hg.out j h1 h2 (by omega)
    · go_wp2
      go_ret
      exact ⟨ret_bool (eqL_of Hl.out (fun j h1 h2 => hg.out j h1 h2 (by omega))).symm, hb⟩


/-- What put leaves alone: the blocks below base but for the receiver's. -/
def PutFrame (g base : Nat) (w w' : World) : Prop := w'.os = w.os ∧ w'.tape = w.tape ∧ w'.output = w.output ∧ w.heap.size ≤ w'.heap.size ∧ ∀ b, b < base → b ≠ g → w'.heap[b]? = w.heap[b]?
def PutGivesF (g base n : Nat) (L : List Fnd) (x : Fnd) (w : World) (e : Ending) (w' : World) : Prop :=
  (∃ u, e = .returned u) ∧ ∃ a c, w'.heap[g]? = some (.cells #[.slice a (n + 1) c] 95 (0, 0)) ∧ Own base 65 4 dFnd w' (.slice a (n + 1) c) (L ++ [x]) ∧ PutFrame g base w w'
set_option maxHeartbeats 1000000 in
theorem putF (g base n : Nat) (a : Option Addr) (c : Nat) (L : List Fnd) (x : Fnd) (w : World) (hg : w.heap[g]? = some (.cells #[.slice a n c] 95 (0, 0))) (hgb : g < base) (hbw : base ≤ w.heap.size) (ho : Own base 65 4 dFnd w (.slice a n c) L) (hl : L.length ≤ 100000000)
    (hk : (Lit.int .u8 x.kind).wf = true) (hn : x.name.size ≤ 140737488355328) (hw : (Lit.int .i64 x.want).wf = true) (hh : (Lit.int .i64 x.has).wf = true) :
    Calls Tryz.prog 39 #[.pointer (some ⟨g, 0, none⟩), .int .u8 x.kind, .string x.name, .int .i64 x.want, .int .i64 x.has] w (PutGivesF g base n L x w) := by
  obtain ⟨-, hcg, hfg⟩ := own_box (Below.refl _ _) (size_of_box hg) hg
  have hgw := size_of_box hg
  have hnl : n = L.length := by obtain ⟨_, _, e⟩ := Own.shape ho; simp at e; exact e.2.1
  have hOw := Own.below (S := fun _ => False) (dFnd.stable _) ho (below_new w (.cells #[.int .u8 x.kind, .string x.name, .int .i64 x.want, .int .i64 x.has] 65))
  have hlo := fun b hbk => (Own.lt ho b hbk).1
  have hu : RSl (From 0) 4 dFnd (w.alloc (.cells #[.int .u8 x.kind, .string x.name, .int .i64 x.want, .int .i64 x.has] 65)) (.slice (some ⟨w.heap.size, 0, none⟩) 1 1) [x] := RSl.built (cs := [.int .u8 x.kind, .string x.name, .int .i64 x.want, .int .i64 x.has]) (Nat.zero_le _) (box_new _ _) rfl ⟨rfl, hk, hn, hw, hh⟩
  have HOw := Lib.hid hOw; have Hu := Lib.hid hu; have Hlo := Lib.hid hlo; have Hnl := Lib.hid hnl; have Hg := Lib.hid hg
  clear hOw hu hlo ho hnl hg hk hw hh
  go_enter Tryz.func39, Tryz.ntmps39
  go_wp2_with (at_builtin; go_must (refine wpList_app _ Tryz.infoFnd rfl rfl Tryz.underlying47 ⟨rfl, by omega, by omega⟩ dFnd.one (dFnd.stable (fun _ => False)) base HOw.out rfl Hu.out rfl (by simp only [List.length_cons, List.length_nil]; omega) (by simp; omega) ?_); intro a1 c1 w1 hgr hat ho1; have ho2 := ho1 (fun _ _ h => h.elim); have hgf : (w.alloc (.cells #[.int .u8 x.kind, .string x.name, .int .i64 x.want, .int .i64 x.has] 65)).heap[g]? = some (.cells #[.slice a n c] 95 (0, 0)) := box_old _ Hg.out; have hne : some g ≠ (Value.slice a n c).ownBlock := (fun he => by have := Hlo.out g he.symm; omega); have hg1 := (hgr.block g (by simp; omega) hne).trans hgf; obtain ⟨-, hcg1, hfg1⟩ := own_box (Below.refl _ _) (size_of_box hg1) hg1; have hb1 : Below base w w1 := (((below_new _ _).mono (by omega)).grown hgr (by simp; omega) (fun j hj => Hlo.out j hj)); have Ho2 := Lib.hid ho2; have Hgr := Lib.hid hgr; have Hat := Lib.hid hat; have Hg1 := Lib.hid hg1; clear ho1 ho2 hgr hat hgf hne hg1)
  go_end0
  have h3 := Ho2.out
  rw [List.length_append, ← Hnl.out] at h3
  refine ⟨⟨_, rfl⟩, a1, c1, ?_, ?_, hb1.os, hb1.tape, hb1.output, ?_, fun b hb hne => (Below.heap_setCell _ ⟨g, 0, none⟩ _ b hne).trans (hb1.block b hb)⟩
  · have := heap_setCell_at (o := 0) Hg1.out (.slice a1 (n + 1) c1)
    rw [← Hnl.out]
    simpa using this
  · exact Own.setCell (S := fun _ => False) (dFnd.stable _) h3 (p := ⟨g, 0, none⟩) hgb (by simp) _
  · simpa [World.setCell] using (by have := Hgr.out.size; simp at this; omega : w.heap.size ≤ w1.heap.size)
theorem MapF.block {w w' : World} {P : Program} {k e : TypeId} {b n : Nat} {f : Lit → Option Lit} (h : MapF w P k e b n f) (hb : w'.heap[b]? = w.heap[b]?) : MapF w' P k e b n f := by
  obtain ⟨D, ⟨es, clock, h1, h2⟩, h3⟩ := h
  exact ⟨D, ⟨es, clock, hb.trans h1, h2⟩, h3⟩
theorem PutFrame.below {g base B : Nat} {w0 w w' : World} (h : PutFrame g base w w') (hB : B ≤ g) (hg : g < base) (hb : Below B w0 w) : Below B w0 w' :=
  ⟨h.1.trans hb.os, h.2.1.trans hb.tape, h.2.2.1.trans hb.output, Nat.le_trans hb.size h.2.2.2.1, fun k hk => (h.2.2.2.2 k (by omega) (by omega)).trans (hb.block k hk)⟩
end Go.Proofs.YtopdfijojjbjdaaGreat

/- What Reconcile finds, as a list; no program but for what its calls give. -/
namespace Go.Proofs.YtopdfijojjbjdaaGreat
open Go Go.RowKit Go.Shelf Go.Maps

/-- The size of the last batch with a name. -/
def lastL (l : List Btc) (L : List UInt8) : Option Int := l.foldl (fun acc b => if b.name.data.toList = L then some (b.blts.length : Int) else acc) none
theorem lastL_snoc (l : List Btc) (b : Btc) (L : List UInt8) : lastL (l ++ [b]) L = if b.name.data.toList = L then some (b.blts.length : Int) else lastL l L := by simp [lastL]
def fndM (l : List Btc) (s : Slot) : List Fnd := match lastL l s.name.data.toList with | none => [⟨1, s.name, s.many, 0⟩] | some n => if n = s.many then [] else [⟨2, s.name, s.many, n⟩]
def hasN (m : List Slot) (L : List UInt8) : Bool := m.any fun s => decide (s.name.data.toList = L)
def fndX (m : List Slot) (b : Btc) : List Fnd := if hasN m b.name.data.toList then [] else [⟨3, b.name, 0, (b.blts.length : Int)⟩]
def allN (l : List Btc) : Int := (l.map fun b => (b.blts.length : Int)).sum
def fndV (all voted : Int) : List Fnd := if all = voted then [] else [⟨4, ⟨#[]⟩, voted, all⟩]
def recL (m : List Slot) (l : List Btc) (voted : Int) : List Fnd := m.flatMap (fndM l) ++ l.flatMap (fndX m) ++ fndV (allN l) voted
theorem allN_succ {l : List Btc} {k : Nat} (hk : k < l.length) : allN (l.take (k + 1)) = allN (l.take k) + (l[k].blts.length : Int) := by
  rw [List.take_succ_eq_append_getElem hk]; simp only [allN, List.map_append, List.map_cons, List.map_nil, List.sum_append, List.sum_cons, List.sum_nil]; omega
theorem allN_bound {l : List Btc} (hsm : Small l) : ∀ k, k ≤ l.length → 0 ≤ allN (l.take k) ∧ allN (l.take k) ≤ k * 1000000
  | 0, _ => by simp [allN]
  | k + 1, hk => by
    have h1 := allN_bound hsm k (by omega)
    have h2 := (hsm.2 _ (List.getElem_mem (show k < l.length by omega))).1
    rw [allN_succ (by omega)]
    omega
theorem flat_succ {α β : Type} (f : α → List β) {l : List α} {k : Nat} (hk : k < l.length) : (l.take (k + 1)).flatMap f = (l.take k).flatMap f ++ f l[k] := by
  rw [List.take_succ_eq_append_getElem hk, List.flatMap_append, List.flatMap_cons, List.flatMap_nil, List.append_nil]
theorem flat_len {α β : Type} (f : α → List β) (h1 : ∀ x, (f x).length ≤ 1) : ∀ l : List α, (l.flatMap f).length ≤ l.length
  | [] => by simp
  | x :: l => by have := flat_len f h1 l; have := h1 x; rw [List.flatMap_cons, List.length_append, List.length_cons]; omega
theorem fndM_len (l : List Btc) (s : Slot) : (fndM l s).length ≤ 1 := by unfold fndM; split <;> (try split) <;> simp
theorem fndX_len (m : List Slot) (b : Btc) : (fndX m b).length ≤ 1 := by unfold fndX; split <;> simp
theorem lastL_wf {l : List Btc} (hsm : Small l) {L : List UInt8} {n : Int} (h : lastL l L = some n) : 0 ≤ n ∧ n ≤ 1000000 := by
  have : ∀ k, k ≤ l.length → ∀ n, lastL (l.take k) L = some n → 0 ≤ n ∧ n ≤ 1000000 := by
    intro k
    induction k with
    | zero => intro _ n h; simp [lastL] at h
    | succ k ih =>
      intro hk n h
      rw [List.take_succ_eq_append_getElem (by omega), lastL_snoc] at h
      split at h
      · have h2 := (hsm.2 _ (List.getElem_mem (show k < l.length by omega))).1
        simp at h
        omega
      · exact ih (by omega) n h
  exact this l.length (Nat.le_refl _) n (by rw [List.take_length]; exact h)
/-- No two batches have one name. -/
def Apart (l : List Btc) : Prop := ∀ i j (hi : i < l.length) (hj : j < l.length), i ≠ j → sameName l[i].name l[j].name = false
theorem apart_of {l : List Btc} {c kind : Int} (h : recCheck l c kind = 0) : Apart l := by
  have hall : (List.range l.length).all (okAt l c kind) = true := by
    unfold recCheck at h
    split at h
    · split at h
      · omega
      · split at h
        · assumption
        · omega
    · omega
  have hlt : ∀ i j (hij : i < j) (hj : j < l.length), sameName (l[i]'(by omega)).name l[j].name = false := by
    intro i j hij hj
    have h1 := List.all_eq_true.1 hall j (List.mem_range.2 hj)
    simp only [okAt, List.getElem?_eq_getElem hj, Bool.and_eq_true, Bool.not_eq_true'] at h1
    have h2 := List.any_eq_false.1 h1.2 (l[i]'(by omega)) (List.mem_take_iff_getElem.2 ⟨i, by omega, rfl⟩)
    simpa using h2
  intro i j hi hj hne
  rcases Nat.lt_or_gt_of_ne hne with h1 | h1
  · exact hlt i j h1 hj
  · rw [sameName_comm]; exact hlt j i h1 hi
def recoI (m : List Slot) (l : List Btc) (c kind voted : Int) : Int := if chkS m = 0 then (if recCheck l c kind = 0 then (if voted < 0 then 2 else 0) else recCheck l c kind) else chkS m
def recoV (m : List Slot) (l : List Btc) (c kind voted : Int) : List Fnd := if recoI m l c kind voted = 0 then recL m l voted else []
def RecoGives (m : List Slot) (l : List Btc) (c kind voted : Int) (w : World) (e : Ending) (w' : World) : Prop :=
  ∃ v, e = .returned (.tuple #[v, .int .i64 (recoI m l c kind voted)]) ∧ Own w.heap.size 65 4 dFnd w' v (recoV m l c kind voted) ∧ Below w.heap.size w w'
theorem RecoGives.none {m : List Slot} {l : List Btc} {c kind voted : Int} {w w' : World} {i : Int} (hi : recoI m l c kind voted = i) (h0 : i ≠ 0) (hb : Below w.heap.size w w') :
    RecoGives m l c kind voted w (.returned (.tuple #[.slice none 0 0, .int .i64 i])) w' := ⟨_, by rw [hi], by rw [recoV, if_neg (by rw [hi]; exact h0)]; exact Own.nil _ _ _ _ _, hb⟩
theorem RecoGives.some {m : List Slot} {l : List Btc} {c kind voted : Int} {w w' : World} {v : Value} {lo : Nat} (h1 : chkS m = 0) (h2 : recCheck l c kind = 0) (h3 : 0 ≤ voted) (hv : Own lo 65 4 dFnd w' v (recL m l voted)) (hlo : w.heap.size ≤ lo) (hb : Below w.heap.size w w') :
    RecoGives m l c kind voted w (.returned (.tuple #[v, .int .i64 0])) w' := by
  have hi : recoI m l c kind voted = 0 := by rw [recoI, if_pos h1, if_pos h2, if_neg (by omega)]
  exact ⟨v, by rw [hi], by rw [recoV, if_pos hi]; exact Own.rebase hv hlo, hb⟩
end Go.Proofs.YtopdfijojjbjdaaGreat

/- Batches of blank ballots, and slices over blocks that hold given cells. -/
namespace Go.Proofs.YtopdfijojjbjdaaGreat
open Go Go.RowKit Go.Shelf

/-- A slice over a block of its own that holds these cells. -/
theorem RSl.lay {α : Type} {n : Nat} {dec : World → List Value → α → Prop} {w : World} {g : Nat} {cells : List Value} {e : TypeId} {xs : List α} {S : Nat → Prop} (hS : S g) (hg : w.heap[g]? = some (.cells cells.toArray e (0, 0))) (h : Dec n dec w cells xs) (hl : xs.length ≤ 1000000000) :
    RSl S n dec w (.slice (some ⟨g, 0, none⟩) xs.length xs.length) xs := by
  refine ⟨_, xs.length, cells, rfl, Nat.le_refl _, by omega, h, .inr ⟨g, 0, rfl, hS, fun j u hu => ?_⟩⟩
  rw [Nat.zero_add, cell_of_row w g j cells.toArray e (0, 0) hg]
  simpa using hu
def blanks (n : Nat) : List Blt := List.replicate n ⟨1, []⟩
theorem blanks_succ (n : Nat) : blanks (n + 1) = blanks n ++ [⟨1, []⟩] := by simp [blanks, List.replicate_succ']
set_option maxHeartbeats 2000000 in
set_option maxRecDepth 100000 in
theorem batch27 (nm : ByteArray) (n : Nat) (w : World) (hn : n ≤ 100) :
    Calls Tryz.prog 15 #[.string nm, .int .i64 n] w fun e w' => ∃ a c, e = .returned (.agg #[.string nm, .slice a n c]) ∧ RBlts Any w' (.slice a n c) (blanks n) ∧ Below w.heap.size w w' := by
  have hb0 : Below w.heap.size w ((w.alloc (.cells #[.string ⟨#[]⟩, .slice none 0 0] 55)).alloc (.cells #[.string nm, .slice none 0 0] 55)) := (below_new w _).alloc (by simp) _
  have gx0 : ((w.alloc (.cells #[.string ⟨#[]⟩, .slice none 0 0] 55)).alloc (.cells #[.string nm, .slice none 0 0] 55)).heap[w.heap.size + 1]? = some (.cells #[.string nm, .slice none 0 0] 55 (0, 0)) := by
    have := box_new (w.alloc (.cells #[.string ⟨#[]⟩, .slice none 0 0] 55)) (.cells #[.string nm, .slice none 0 0] 55)
    rwa [World.size_alloc] at this
  have gr0 : ((w.alloc (.cells #[.string ⟨#[]⟩, .slice none 0 0] 55)).alloc (.cells #[.string nm, .slice none 0 0] 55)).heap[w.heap.size]? = some (.cells #[.string ⟨#[]⟩, .slice none 0 0] 55 (0, 0)) := box_old _ (box_new _ _)
  have Hgx0 := Lib.hid gx0; have Hgr0 := Lib.hid gr0
  clear gx0 gr0
  go_enter Tryz.func15, Tryz.ntmps15
  go_wp2
  go_loopw [6] (fun i wr => ∃ (k : Nat) (a : Option Addr) (c : Nat), k ≤ n ∧ i = .int .i64 k ∧ wr.heap[w.heap.size]? = some (.cells #[.string ⟨#[]⟩, .slice none 0 0] 55 (0, 0)) ∧ wr.heap[w.heap.size + 1]? = some (.cells #[.string nm, .slice a k c] 55 (0, 0)) ∧
    Hid (Own (w.heap.size + 2) 41 2 (dBlt (fun _ => False)) wr (.slice a k c) (blanks k)) ∧ w.heap.size + 2 ≤ wr.heap.size ∧ Below w.heap.size w wr) (fun i _ => n - (intOf i).toNat)
  case atStart => exact ⟨0, none, 0, Nat.zero_le _, rfl, Hgr0.out, Hgx0.out, Lib.hid (Own.nil _ _ _ _ _), by simp, hb0⟩
  case round =>
    obtain ⟨k, a, c, hk, rfl, hgr, hgx, hown, hwr, hb⟩ := hrel
    obtain ⟨-, hcx, hfx⟩ := own_box (Below.refl _ wr) (size_of_box hgx) hgx
    have hcx1 : wr.cell? ⟨w.heap.size + 1, 1, none⟩ = some (.slice a k c) := hcx 1
    have hcx0 : wr.cell? ⟨w.heap.size + 1, 0, none⟩ = some (.string nm) := hcx 0
    have hfx1 := hfx 1
    by_cases hlt : k < n
    · have hlo := fun b hbk => (Own.lt hown.out b hbk).1
      have hnw : Below wr.heap.size wr (wr.alloc (.cells #[.int .u8 1, .slice none 0 0] 41)) := below_new _ _
      have hOw := Own.below (S := fun _ => False) (dBlt.stable _) hown.out hnw
      have hu : RSl (From 0) 2 (dBlt (fun _ => False)) (wr.alloc (.cells #[.int .u8 1, .slice none 0 0] 41)) (.slice (some ⟨wr.heap.size, 0, none⟩) 1 1) [(⟨1, []⟩ : Blt)] := RSl.built (cs := [.int .u8 1, .slice none 0 0]) (Nat.zero_le _) (box_new _ _) rfl ⟨_, rfl, by simp, by simp, RSl.nil⟩
      have hbl : (blanks k).length = k := by simp [blanks]
      have HOw := Lib.hid hOw; have Hu := Lib.hid hu; have Hlo := Lib.hid hlo; have Hbl := Lib.hid hbl; have Hgx := Lib.hid hgx; have Hgr := Lib.hid hgr; have Hnw := Lib.hid hnw
      clear hOw hu hlo hbl hgx hgr hcx hfx hnw hown
      go_wp2_with (at_builtin; go_must (refine wpList_appV _ Tryz.infoBlt rfl rfl Tryz.underlying53 ⟨rfl, by omega, by omega⟩ (dBlt.one _) (dBlt.stable (fun _ => False)) (w.heap.size + 2) HOw.out rfl Hu.out rfl (by rw [Hbl.out]; simp; omega) (by simp; omega) ?_); intro a1 n1 c1 w1 hg hat ho1; have ho2 := ho1 (fun _ _ h => h.elim); have hgx1 := (hg.block (w.heap.size + 1) (by simp; omega) (fun e => by have := Hlo.out _ e.symm; omega)).trans (box_old _ Hgx.out); have hgr1 := (hg.block w.heap.size (by simp; omega) (fun e => by have := Hlo.out _ e.symm; omega)).trans (box_old _ Hgr.out); obtain ⟨-, q1, q2⟩ := own_box (Below.refl _ w1) (size_of_box hgx1) hgx1; have q11 := q1 1; have q21 := q2 1; have Hgx1 := Lib.hid hgx1; have Hgr1 := Lib.hid hgr1; have Ho2 := Lib.hid ho2; have Hg := Lib.hid hg; clear hgx1 hgr1 ho1 ho2 hg hat)
      have hn1 : n1 = k + 1 := by
        obtain ⟨a9, c9, e9⟩ := Own.shape Ho2.out
        simp only [Value.slice.injEq, List.length_append, List.length_cons, List.length_nil, Hbl.out] at e9
        omega
      subst hn1
      refine ⟨⟨k + 1, a1, c1, by omega, by go_num, ?_, heap_setCell_at (o := 1) Hgx1.out _, Lib.hid ?_, ?_, ?_⟩, by simp [intOf]; omega⟩
      · exact (Below.heap_setCell _ _ _ _ (by simp)).trans Hgr1.out
      · rw [blanks_succ]
        exact Own.setCell (dBlt.stable (fun _ => False)) Ho2.out (p := ⟨w.heap.size + 1, 1, none⟩) (by simp) (fun h => h) _
      · rw [size_setCell']; have := Hg.out.size; simp at this; omega
      · exact ((hb.trans (Hnw.out.mono hb.size)).grown Hg.out (by simp; omega) (fun b hb => by have := Hlo.out b hb; omega)).setCell (p := ⟨w.heap.size + 1, 1, none⟩) (by simp) _
    · have hk' : k = n := by omega
      subst hk'
      obtain ⟨-, hcr, hfr⟩ := own_box (Below.refl _ wr) (size_of_box hgr) hgr
      have hbl : (blanks k).length = k := by simp [blanks]
      have hown2 := Own.setCell (dBlt.stable (fun _ => False)) (Own.setCell (dBlt.stable (fun _ => False)) hown.out (p := ⟨w.heap.size, 0, none⟩) (by simp) (fun h => h) (.string nm)) (p := ⟨w.heap.size, 1, none⟩) (by simp) (fun h => h) (.slice a k c)
      have hout : RBlts Any ((wr.setCell ⟨w.heap.size, 0, none⟩ (.string nm)).setCell ⟨w.heap.size, 1, none⟩ (.slice a k c)) (.slice a k c) (blanks k) := RSl.mono (fun _ _ _ h => dBlt.mono (fun _ h => h.elim) h) (fun _ _ => trivial) (Own.rsl hown2 (by rw [hbl]; omega))
      have Hout := Lib.hid hout; have Hgr := Lib.hid hgr
      clear hout hown hown2 hgr hgx hbl hcx hfx
      go_wp2
      have hgr2 : ((wr.setCell ⟨w.heap.size, 0, none⟩ (.string nm)).setCell ⟨w.heap.size, 1, none⟩ (.slice a k c)).heap[w.heap.size]? = some (.cells #[.string nm, .slice a k c] 55 (0, 0)) := heap_setCell_at (o := 1) (heap_setCell_at (o := 0) Hgr.out _) _
      obtain ⟨-, r1, -⟩ := own_box (Below.refl _ _) (size_of_box hgr2) hgr2
      refine bodyPost_ret (v := .agg #[.string nm, .slice a k c]) (by simp [results, Tryz.results15, go_sem, r1]) rfl ?_
      exact ⟨_, _, rfl, Hout.out, (hb.setCell (p := ⟨w.heap.size, 0, none⟩) (Nat.le_refl _) _).setCell (p := ⟨w.heap.size, 1, none⟩) (Nat.le_refl _) _⟩
end Go.Proofs.YtopdfijojjbjdaaGreat

/- The contract of canvass.Reconcile. -/
namespace Go.Proofs.YtopdfijojjbjdaaGreat
open Go Go.RowKit Go.Shelf Go.Maps Go.WideMaps

set_option maxHeartbeats 1000000 in
theorem canvassReco_bad (S : Nat → Prop) (u v : Value) (m : List Slot) (l : List Btc) (c kind voted : Int) (w : World) (hx : RSl S 2 dSlot w u m) (hy : RBtcs S w v l) (hbad : ¬ (chkS m = 0 ∧ recCheck l c kind = 0 ∧ 0 ≤ voted)) :
    Calls Tryz.prog 14 #[u, v, .int .i64 c, .int .u8 kind, .int .i64 voted] w (RecoGives m l c kind voted w) := by
  have hA := canvassCheck S u m w hx
  have hB := fun W (hW : Below w.heap.size w W) => recordCheck S v l c kind W (hy.same (.of_below hW))
  have hG := fun w' i h1 h2 (hb : Below w.heap.size w w') => RecoGives.none (m := m) (l := l) (c := c) (kind := kind) (voted := voted) (w := w) (w' := w') (i := i) h1 h2 hb
  obtain ⟨a1, cap1, rfl, -, -⟩ := RSl.shape hx
  obtain ⟨a2, cap2, rfl, -, -⟩ := RSl.shape hy
  have hr : recoI m l c kind voted = if chkS m = 0 then (if recCheck l c kind = 0 then (if voted < 0 then 2 else 0) else recCheck l c kind) else chkS m := rfl
  generalize chkS m = ra at *
  generalize recCheck l c kind = rb at *
  generalize recoI m l c kind voted = I at *
  have HA := Lib.hid hA; have HB := Lib.hid hB; have HG := Lib.hid hG; have Hr := Lib.hid hr; clear hA hB hG hr hx hy
  by_cases h0 : ra = 0
  case neg =>
    have hz0 : (ra != 0) = true := by simpa using h0
    have hI := Hr.out
    rw [if_neg h0] at hI
    have HI := Lib.hid hI; have H0 := Lib.hid h0; clear h0 hbad hI
    go_enter Tryz.func14, Tryz.ntmps14
    go_wp2_with (go_at_call 38; refine HA.out.mono ?_; rintro e w1 ⟨rfl, hb1⟩)
    go_ret2
    exact HG.out _ _ HI.out H0.out hb1
  subst h0
  have hz0 : ((0 : Int) != 0) = false := rfl
  by_cases h1 : rb = 0
  case neg =>
    have hz1 : (rb != 0) = true := by simpa using h1
    have hI := Hr.out
    rw [if_pos rfl, if_neg h1] at hI
    have HI := Lib.hid hI; have H1 := Lib.hid h1; clear h1 hbad hI
    go_enter Tryz.func14, Tryz.ntmps14
    go_wp2_with (first
      | (go_at_call 38; refine HA.out.mono ?_; rintro e w1 ⟨rfl, hb1⟩)
      | (go_at_call 26; refine (HB.out _ hb1).mono ?_; rintro e w2 ⟨rfl, hb2⟩))
    go_ret2
    exact HG.out _ _ HI.out H1.out (hb1.trans (hb2.mono hb1.size))
  subst h1
  have hv : voted < 0 := by omega
  have hI := Hr.out
  rw [if_pos rfl, if_pos rfl, if_pos hv] at hI
  have HI := Lib.hid hI; clear hbad hI
  go_enter Tryz.func14, Tryz.ntmps14
  go_wp2_with (first
    | (go_at_call 38; refine HA.out.mono ?_; rintro e w1 ⟨rfl, hb1⟩)
    | (go_at_call 26; refine (HB.out _ hb1).mono ?_; rintro e w2 ⟨rfl, hb2⟩))
  go_ret2
  exact HG.out _ _ HI.out (by omega) (hb1.trans (hb2.mono hb1.size))

theorem has_upd {m : List Slot} {k : Nat} {x : Slot} {t : List Slot} {g : Lit → Option Lit} (ht : t = m.take k ++ [x]) (hg : ∀ L, isTrue (g (.string L)) = hasN (m.take k) L) (L : List UInt8) : isTrue (upd g (.string x.name.data.toList) (.bool true) (.string L)) = hasN t L := by
  subst ht
  by_cases he : L = x.name.data.toList
  · subst he; rw [upd_same]; simp [isTrue, hasN]
  · rw [upd_other g (fun h => he (by injection h)), hg L]
    have hne : decide (x.name.data.toList = L) = false := decide_eq_false fun h => he h.symm
    simp only [hasN, List.any_append, List.any_cons, List.any_nil, hne, Bool.or_false]
set_option maxHeartbeats 4000000 in
set_option maxRecDepth 100000 in
theorem canvassReco_main (S : Nat → Prop) (u v : Value) (m : List Slot) (l : List Btc) (c kind voted : Int) (w : World) (hx : RSl S 2 dSlot w u m) (hy : RBtcs S w v l) (hlm : m.length ≤ 1000) (hsm : Small l) (hvw : (Lit.int .i64 voted).wf = true)
    (k1 : chkS m = 0) (k2 : recCheck l c kind = 0) (k3 : 0 ≤ voted) :
    Calls Tryz.prog 14 #[u, v, .int .i64 c, .int .u8 kind, .int .i64 voted] w (RecoGives m l c kind voted w) := by
  have hA := canvassCheck S u m w hx
  have hB := fun W (hW : Below w.heap.size w W) => recordCheck S v l c kind W (hy.same (.of_below hW))
  rw [k1] at hA
  rw [k2] at hB
  have hG := fun w' p lo ho (hlo : w.heap.size ≤ lo) (hb : Below w.heap.size w w') => RecoGives.some (m := m) (l := l) (c := c) (kind := kind) (voted := voted) (w := w) (w' := w') (v := p) (lo := lo) k1 k2 k3 ho hlo hb
  obtain ⟨a1, cap1, rfl, -, -⟩ := RSl.shape hx
  obtain ⟨a2, cap2, rfl, -, -⟩ := RSl.shape hy
  have hl1 := hsm.1
  have hmm := @run_makeMap Tryz.prog
  have HA := Lib.hid hA; have HB := Lib.hid hB; have HG := Lib.hid hG; have HX := Lib.hid hx; have HY := Lib.hid hy; have Hsm := Lib.hid hsm; have Hvw := Lib.hid hvw
  have hv0 := wf_i64 hvw
  clear hA hB hG hx hy hsm hvw k1 k2
  have eg : ∀ args w, (callFunc 39 args).run Tryz.prog w = .ok (.enter 39 args) w := enters_of Tryz.func39 (by kernel_rfl) rfl
  have hz0 : ((0 : Int) != 0) = false := rfl
  go_enter Tryz.func14, Tryz.ntmps14
  go_wp2_with (first
    | (go_at_call 38; refine HA.out.mono ?_; rintro e w1 ⟨rfl, hb1⟩)
    | (go_at_call 26; refine (HB.out _ hb1).mono ?_; rintro e w2 ⟨rfl, hb2⟩; have hq2 := hb1.trans (hb2.mono hb1.size); have hl2 := hq2.size))
  clear hmm
  have Hm0 := Lib.hid (show MapF ((w2.alloc (.cells #[.slice none 0 0] 95)).alloc (.map #[] 0)) Tryz.prog 9 3 (w2.heap.size + 1) 0 (fun _ => none) by simpa using MapF.made (w2.alloc (.cells #[.slice none 0 0] 95)) Tryz.prog 9 3)
  have Hx0 := Lib.hid (box_old (.map #[] 0) (box_new w2 (.cells #[.slice none 0 0] 95)))
  have hq3 : Below w.heap.size w ((w2.alloc (.cells #[.slice none 0 0] 95)).alloc (.map #[] 0)) := (hq2.alloc hl2 _).alloc (by simp; omega) _
  go_loopw [17, 48] (fun al i wr => ∃ (k : Nat) (f : Lit → Option Lit) (A : Int), k ≤ l.length ∧ i = .int .i64 k ∧ al = .int .i64 A ∧ Hid (A = allN (l.take k)) ∧ 0 ≤ A ∧ A ≤ 1000000000000 ∧ Hid (MapF wr Tryz.prog 9 3 (w2.heap.size + 1) k f) ∧
    Hid (∀ L, f (.string L) = (lastL (l.take k) L).map (fun n => Lit.int .i64 n)) ∧ Hid (wr.heap[w2.heap.size]? = some (.cells #[.slice none 0 0] 95 (0, 0))) ∧ Below w.heap.size w wr) (fun _ i _ => l.length - (intOf i).toNat)
  case atStart => exact ⟨0, _, 0, Nat.zero_le _, rfl, rfl, Lib.hid rfl, by omega, by omega, Hm0, Lib.hid (fun L => rfl), Hx0, hq3⟩
  case round =>
    clear Hm0 Hx0 hq3
    obtain ⟨k, f, A, hk, rfl, rfl, hA, hA0, hA1, hmf, hfx, hbx, hb⟩ := hrel
    have hlr := hb.size
    have hlm1 := hmf.out.lt
    by_cases hlt : k < l.length
    · obtain ⟨b, off, c0, d0, rfl, hS, hbw, hc, hd, hx⟩ := RSl.at2 (RBtcs.same (.of_below hb) HY.out) k hlt
      obtain ⟨a3, cap3, rfl, rfl, hl3, hnl, -⟩ := hx.open
      have hbl : l[k].blts.length ≤ 1000000 := (Hsm.out.2 _ (List.getElem_mem hlt)).1
      have hkey : keyOf Tryz.prog 9 (.string l[k].name) = some (.string l[k].name.data.toList) := keyOf_string_mk Tryz.underlying9 (by unfold maxLen; omega)
      have hnx := allN_succ hlt
      rw [← hA.out] at hnx
      have hbd := allN_bound Hsm.out (k + 1) (by omega)
      rw [hnx] at hbd
      have hts : l.take (k + 1) = l.take k ++ [l[k]] := List.take_succ_eq_append_getElem hlt
      have hmf1 := hmf.out.below (below_new wr (.cells #[.string l[k].name, .slice a3 l[k].blts.length cap3] 55))
      have hbd0 : 0 ≤ A + (l[k].blts.length : Int) ∧ A + (l[k].blts.length : Int) ≤ 1000000000000 := by omega
      have Hkey := Lib.hid hkey; have Hnx := Lib.hid hnx; have Hts := Lib.hid hts; have Hmf1 := Lib.hid hmf1
      clear hkey hnx hbd hts hmf1 hx
      go_wp2_with (at_mapUpdate; refine wpList_mapF _ rfl _ _ _ 97 rfl 9 3 (string_keyed Tryz.underlying9) Tryz.underlying97 (w2.heap.size + 1) k f rfl Hmf1.out (by unfold maxLen; omega) _ _ _ rfl rfl Hkey.out trivial (.int .i64 l[k].blts.length) (plainElem_int Tryz.underlying3 (wf_len hl3)) ?_; intro w6 hm6 hg6; have gx6 := (hg6.block wr.heap.size (by simp) (by simp; omega)).trans (box_new wr (.cells #[.string l[k].name, .slice a3 l[k].blts.length cap3] 55)); obtain ⟨-, hc6, hf6⟩ := own_box (Below.refl _ _) (size_of_box gx6) gx6; have hlt6 := size_of_box gx6; have hb6 : Below w.heap.size w w6 := ((hb.alloc hlr _).grown hg6 (by simp; omega) (fun j hj => by cases hj; omega)); have hbx6 := (hg6.block w2.heap.size (by simp; omega) (by simp)).trans (box_old _ hbx.out); have Hm6 := Lib.hid hm6; have Hg6 := Lib.hid hg6; have Hbx6 := Lib.hid hbx6; clear hm6 hg6 gx6 hbx6)
      refine ⟨⟨k + 1, _, A + (l[k].blts.length : Int), by omega, by go_num, rfl, Lib.hid Hnx.out.symm, hbd0.1, hbd0.2, Hm6, Lib.hid (fun L => ?_), Hbx6, hb6⟩, by simp [intOf]; omega⟩
      rw [Hts.out, lastL_snoc]
      by_cases he : l[k].name.data.toList = L
      · subst he; rw [upd_same, if_pos rfl]; rfl
      · rw [upd_other f (fun h => he (by injection h with h; exact h.symm)), if_neg he, hfx.out L]
    · have hk' : k = l.length := by omega
      subst hk'
      have hfl := hfx.out
      have hAl := hA.out
      rw [List.take_length] at hfl hAl
      have Hfl := Lib.hid hfl; have HAl := Lib.hid hAl
      have hmm := @run_makeMap Tryz.prog
      clear hfl hAl hA hfx
      go_wp2
      clear hmm
      obtain ⟨wa, rfl⟩ : ∃ wa, wa = wr := ⟨_, rfl⟩
      have hb0 : Below w.heap.size w (wa.alloc (.map #[] 0)) := hb.alloc hlr _
      have hb0size : w.heap.size ≤ wa.heap.size := hlr
      have Hsz0 := Lib.hid (hmf.out.below (below_new wa (.map #[] 0)))
      have Hsl0 := Lib.hid (MapF.made wa Tryz.prog 9 4)
      have Hbx0 := Lib.hid (box_old (.map #[] 0) hbx.out)
      clear hmf hbx
      go_loopw [67] (fun i wr => ∃ (k : Nat) (g : Lit → Option Lit) (a : Option Addr) (n cp : Nat), k ≤ m.length ∧ i = .int .i64 k ∧ Hid (MapF wr Tryz.prog 9 3 (w2.heap.size + 1) l.length f) ∧ Hid (MapF wr Tryz.prog 9 4 wa.heap.size k g) ∧
        Hid (∀ L, isTrue (g (.string L)) = hasN (m.take k) L) ∧ Hid (wr.heap[w2.heap.size]? = some (.cells #[.slice a n cp] 95 (0, 0))) ∧ Hid (Own (wa.heap.size + 1) 65 4 dFnd wr (.slice a n cp) ((m.take k).flatMap (fndM l))) ∧ wa.heap.size + 1 ≤ wr.heap.size ∧ Below w.heap.size w wr) (fun i _ => m.length - (intOf i).toNat)
      case atStart => exact ⟨0, _, none, 0, 0, Nat.zero_le _, rfl, Hsz0, Hsl0, Lib.hid (fun L => by simp [isTrue, hasN]), Hbx0, Lib.hid (Own.nil _ _ _ _ _), by simp, hb0⟩
      case round =>
        clear Hsz0 Hsl0 Hbx0 hb0
        obtain ⟨k, g, ax, n, cp, hk, rfl, hsz, hsl, hgx, hbx, hown, hwr, hb⟩ := hrel
        have hlr := hb.size
        by_cases hlt : k < m.length
        · obtain ⟨b, off, c0, d0, rfl, hS, hbw, hc, hd, hx⟩ := RSl.at2 (RSl.same (dSlot.stable _) (.of_below hb) HX.out) k hlt
          obtain ⟨⟨rfl, rfl⟩, hnl, hwf⟩ := hx.open
          have hkey : keyOf Tryz.prog 9 (.string m[k].name) = some (.string m[k].name.data.toList) := keyOf_string_mk Tryz.underlying9 (by unfold maxLen; omega)
          have hts : m.take (k + 1) = m.take k ++ [m[k]] := List.take_succ_eq_append_getElem hlt
          have hfs := flat_succ (fndM l) hlt
          have hfm : fndM l m[k] = match lastL l m[k].name.data.toList with | none => [⟨1, m[k].name, m[k].many, 0⟩] | some n => if n = m[k].many then [] else [⟨2, m[k].name, m[k].many, n⟩] := rfl
          have hll := flat_len (fndM l) (fndM_len l) (m.take k)
          have hll2 : ((m.take k).flatMap (fndM l)).length ≤ 100000000 := by rw [List.length_take] at hll; omega
          have hsl1 := hsl.out.below (below_new wr (.cells #[.string m[k].name, .int .i64 m[k].many] 51))
          have hsz1 := hsz.out.below (below_new wr (.cells #[.string m[k].name, .int .i64 m[k].many] 51))
          have hlook := fun W (hW : MapF W Tryz.prog 9 3 (w2.heap.size + 1) l.length f) => hW.look_ok (string_keyed Tryz.underlying9) Tryz.underlying97 Tryz.underlying3 (by kernel_rfl) hkey
          have hfk := Hfl.out m[k].name.data.toList
          have hbx1 := box_old (.cells #[.string m[k].name, .int .i64 m[k].many] 51) hbx.out
          have hown1 := Own.below (S := fun _ => False) (dFnd.stable _) hown.out (below_new wr (.cells #[.string m[k].name, .int .i64 m[k].many] 51))
          have hobn : (Value.slice ax n cp).ownBlock = none ∨ (Value.slice ax n cp).ownBlock ≠ some wa.heap.size := .inr (fun he => by have := (Own.lt hown.out _ he).1; omega)
          have Hkey := Lib.hid hkey; have Hts := Lib.hid hts; have Hfs := Lib.hid hfs; have Hfm := Lib.hid hfm; have Hll2 := Lib.hid hll2; have Hsl1 := Lib.hid hsl1; have Hsz1 := Lib.hid hsz1; have Hlook := Lib.hid hlook; have Hfk := Lib.hid hfk; have Hwf := Lib.hid hwf; have Hbx1 := Lib.hid hbx1; have Hown1 := Lib.hid hown1; have Hobn := Lib.hid hobn; have Hnl := Lib.hid hnl
          have hwm := wf_i64 hwf
          clear hkey hts hfs hfm hll hll2 hsl1 hsz1 hlook hfk hwf hx hbx1 hown1 hobn hsz hsl hbx hown
          cases hla : lastL l m[k].name.data.toList with
          | none =>
            have hfn : f (.string m[k].name.data.toList) = none := by rw [Hfk.out, hla]; rfl
            have hfm := Hfm.out
            rw [hla] at hfm
            simp only at hfm
            have Hfm := Lib.hid hfm; have Hfn := Lib.hid hfn
            clear hla hfn hfm
            go_wp2_with (first
              | (at_mapUpdate; refine wpList_mapF _ rfl _ _ _ 98 rfl 9 4 (string_keyed Tryz.underlying9) Tryz.underlying98 wa.heap.size k g rfl Hsl1.out (by unfold maxLen; omega) _ _ _ rfl rfl Hkey.out trivial (.bool true) (plainElem_bool Tryz.underlying4 true) ?_; intro w6 hm6 hg6; have gx6 := (hg6.block wr.heap.size (by simp) (by simp; omega)).trans (box_new wr (.cells #[.string m[k].name, .int .i64 m[k].many] 51)); obtain ⟨-, hc6, hf6⟩ := own_box (Below.refl _ _) (size_of_box gx6) gx6; have hlt6 := size_of_box gx6; have hsz6 := Hsz1.out.kept hg6 (by simp; omega); have hlk6 := (Hlook.out w6 hsz6).1 Hfn.out; have hb6 : Below w.heap.size w w6 := ((hb.alloc hlr _).grown hg6 (by simp; omega) (fun j hj => by cases hj; omega)); have hbx6 := (hg6.block w2.heap.size (by simp; omega) (by simp; omega)).trans Hbx1.out; have hown6 := Own.kept (S := fun _ => False) (dFnd.stable _) Hown1.out hg6 Hobn.out (fun _ _ h => h.elim); have Hm6 := Lib.hid hm6; have Hsz6 := Lib.hid hsz6; have Hbx6 := Lib.hid hbx6; have Hown6 := Lib.hid hown6; clear hm6 hg6 gx6 hsz6 hbx6 hown6)
              | (go_at_fn 39; refine (putF w2.heap.size (wa.heap.size + 1) n ax cp _ ⟨1, m[k].name, m[k].many, 0⟩ w6 Hbx6.out (by omega) (by omega) Hown6.out Hll2.out (show (Lit.int .u8 1).wf = true by decide) Hnl.out Hwf.out (show (Lit.int .i64 0).wf = true by decide)).mono ?_; rintro e w7 ⟨⟨u7, rfl⟩, a7, c7, hbx7, hown7, hfr7⟩; have hb7 := hfr7.below hl2 (by omega) hb6; have hs7 := hfr7.2.2.2.1; have hm7 := Hm6.out.block (hfr7.2.2.2.2 wa.heap.size (by omega) (by omega)); have hsz7 := Hsz6.out.block (hfr7.2.2.2.2 (w2.heap.size + 1) (by omega) (by omega)); have Hbx7 := Lib.hid hbx7; have Hown7 := Lib.hid hown7; have Hm7 := Lib.hid hm7; have Hsz7 := Lib.hid hsz7; have Hfr7 := Lib.hid hfr7; clear hbx7 hown7 hm7 hsz7 hfr7))
            refine ⟨⟨k + 1, _, a7, n + 1, c7, by omega, by go_num, Hsz7, Hm7, Lib.hid (fun L => ?_), Hbx7, Lib.hid (by rw [Hfs.out, Hfm.out]; exact Hown7.out), by omega, hb7⟩, by simp [intOf]; omega⟩
            exact has_upd Hts.out hgx.out L
          | some q =>
            have hfn : f (.string m[k].name.data.toList) = some (.int .i64 q) := by rw [Hfk.out, hla]; rfl
            have hqb := lastL_wf Hsm.out hla
            have hfm := Hfm.out
            rw [hla] at hfm
            simp only at hfm
            have Hfn := Lib.hid hfn
            have Hqw : Hid ((Lit.int .i64 q).wf = true) := Lib.hid (by obtain ⟨q', rfl⟩ : ∃ q' : Nat, q = q' := ⟨q.toNat, by omega⟩; exact wf_len (by omega))
            by_cases hqm : q = m[k].many
            · rw [if_pos hqm] at hfm
              have Hfm := Lib.hid hfm
              have hne : (q != m[k].many) = false := by simpa using hqm
              have Hqm := Lib.hid hqm
              clear hla hfn hfm hqm
              go_wp2_with (at_mapUpdate; refine wpList_mapF _ rfl _ _ _ 98 rfl 9 4 (string_keyed Tryz.underlying9) Tryz.underlying98 wa.heap.size k g rfl Hsl1.out (by unfold maxLen; omega) _ _ _ rfl rfl Hkey.out trivial (.bool true) (plainElem_bool Tryz.underlying4 true) ?_; intro w6 hm6 hg6; have gx6 := (hg6.block wr.heap.size (by simp) (by simp; omega)).trans (box_new wr (.cells #[.string m[k].name, .int .i64 m[k].many] 51)); obtain ⟨-, hc6, hf6⟩ := own_box (Below.refl _ _) (size_of_box gx6) gx6; have hlt6 := size_of_box gx6; have hsz6 := Hsz1.out.kept hg6 (by simp; omega); have hlk6 := (Hlook.out w6 hsz6).2 q Hfn.out; have hb6 : Below w.heap.size w w6 := ((hb.alloc hlr _).grown hg6 (by simp; omega) (fun j hj => by cases hj; omega)); have hbx6 := (hg6.block w2.heap.size (by simp; omega) (by simp; omega)).trans Hbx1.out; have hown6 := Own.kept (S := fun _ => False) (dFnd.stable _) Hown1.out hg6 Hobn.out (fun _ _ h => h.elim); have Hm6 := Lib.hid hm6; have Hsz6 := Lib.hid hsz6; have Hbx6 := Lib.hid hbx6; have Hown6 := Lib.hid hown6; clear hm6 hg6 gx6 hsz6 hbx6 hown6)
              refine ⟨⟨k + 1, _, ax, n, cp, by omega, by go_num, Hsz6, Hm6, Lib.hid (fun L => ?_), Hbx6, Lib.hid (by rw [Hfs.out, Hfm.out, List.append_nil]; exact Hown6.out), by omega, hb6⟩, by simp [intOf]; omega⟩
              exact has_upd Hts.out hgx.out L
            · rw [if_neg hqm] at hfm
              have Hfm := Lib.hid hfm
              have hne : (q != m[k].many) = true := by simpa using hqm
              have Hqm := Lib.hid hqm
              clear hla hfn hfm hqm
              go_wp2_with (first
                | (at_mapUpdate; refine wpList_mapF _ rfl _ _ _ 98 rfl 9 4 (string_keyed Tryz.underlying9) Tryz.underlying98 wa.heap.size k g rfl Hsl1.out (by unfold maxLen; omega) _ _ _ rfl rfl Hkey.out trivial (.bool true) (plainElem_bool Tryz.underlying4 true) ?_; intro w6 hm6 hg6; have gx6 := (hg6.block wr.heap.size (by simp) (by simp; omega)).trans (box_new wr (.cells #[.string m[k].name, .int .i64 m[k].many] 51)); obtain ⟨-, hc6, hf6⟩ := own_box (Below.refl _ _) (size_of_box gx6) gx6; have hlt6 := size_of_box gx6; have hsz6 := Hsz1.out.kept hg6 (by simp; omega); have hlk6 := (Hlook.out w6 hsz6).2 q Hfn.out; have hb6 : Below w.heap.size w w6 := ((hb.alloc hlr _).grown hg6 (by simp; omega) (fun j hj => by cases hj; omega)); have hbx6 := (hg6.block w2.heap.size (by simp; omega) (by simp; omega)).trans Hbx1.out; have hown6 := Own.kept (S := fun _ => False) (dFnd.stable _) Hown1.out hg6 Hobn.out (fun _ _ h => h.elim); have Hm6 := Lib.hid hm6; have Hsz6 := Lib.hid hsz6; have Hbx6 := Lib.hid hbx6; have Hown6 := Lib.hid hown6; clear hm6 hg6 gx6 hsz6 hbx6 hown6)
                | (go_at_fn 39; refine (putF w2.heap.size (wa.heap.size + 1) n ax cp _ ⟨2, m[k].name, m[k].many, q⟩ w6 Hbx6.out (by omega) (by omega) Hown6.out Hll2.out (show (Lit.int .u8 2).wf = true by decide) Hnl.out Hwf.out Hqw.out).mono ?_; rintro e w7 ⟨⟨u7, rfl⟩, a7, c7, hbx7, hown7, hfr7⟩; have hb7 := hfr7.below hl2 (by omega) hb6; have hs7 := hfr7.2.2.2.1; have hm7 := Hm6.out.block (hfr7.2.2.2.2 wa.heap.size (by omega) (by omega)); have hsz7 := Hsz6.out.block (hfr7.2.2.2.2 (w2.heap.size + 1) (by omega) (by omega)); have Hbx7 := Lib.hid hbx7; have Hown7 := Lib.hid hown7; have Hm7 := Lib.hid hm7; have Hsz7 := Lib.hid hsz7; have Hfr7 := Lib.hid hfr7; clear hbx7 hown7 hm7 hsz7 hfr7))
              refine ⟨⟨k + 1, _, a7, n + 1, c7, by omega, by go_num, Hsz7, Hm7, Lib.hid (fun L => ?_), Hbx7, Lib.hid (by rw [Hfs.out, Hfm.out]; exact Hown7.out), by omega, hb7⟩, by simp [intOf]; omega⟩
              exact has_upd Hts.out hgx.out L
        · have hk' : k = m.length := by omega
          subst hk'
          have hgl := hgx.out
          have hol := hown.out
          rw [List.take_length] at hgl hol
          have Hgl := Lib.hid hgl; have Hol := Lib.hid hol
          clear hgl hol hgx hown hsz
          have hlenM := flat_len (fndM l) (fndM_len l) m
          go_wp2
          obtain ⟨wb, rfl⟩ : ∃ wb, wb = wr := ⟨_, rfl⟩
          obtain ⟨LM, hLM⟩ : ∃ LM, LM = m.flatMap (fndM l) := ⟨_, rfl⟩
          rw [← hLM] at Hol hlenM
          have HLM := Lib.hid hLM; clear hLM
          go_loopw [105] (fun i wr => ∃ (k : Nat) (a : Option Addr) (n cp : Nat), k ≤ l.length ∧ i = .int .i64 k ∧ Hid (MapF wr Tryz.prog 9 4 wa.heap.size m.length g) ∧
            Hid (wr.heap[w2.heap.size]? = some (.cells #[.slice a n cp] 95 (0, 0))) ∧ Hid (Own (wa.heap.size + 1) 65 4 dFnd wr (.slice a n cp) (LM ++ (l.take k).flatMap (fndX m))) ∧ wa.heap.size + 1 ≤ wr.heap.size ∧ Below w.heap.size w wr) (fun i _ => l.length - (intOf i).toNat)
          case atStart => exact ⟨0, ax, n, cp, Nat.zero_le _, rfl, hsl, hbx, Lib.hid (by simpa using Hol.out), hwr, hb⟩
          case round =>
            clear hsl hbx hwr hb Hol
            obtain ⟨k, ax, n, cp, hk, rfl, hsl, hbx, hown, hwr, hb⟩ := hrel
            have hlr := hb.size
            by_cases hlt : k < l.length
            · obtain ⟨b, off, c0, d0, rfl, hS, hbw, hc, hd, hx⟩ := RSl.at2 (RBtcs.same (.of_below hb) HY.out) k hlt
              obtain ⟨a3, cap3, rfl, rfl, hl3, hnl, -⟩ := hx.open
              have hkey : keyOf Tryz.prog 9 (.string l[k].name) = some (.string l[k].name.data.toList) := keyOf_string_mk Tryz.underlying9 (by unfold maxLen; omega)
              have hfs := flat_succ (fndX m) hlt
              have hfx0 : fndX m l[k] = if hasN m l[k].name.data.toList then [] else [⟨3, l[k].name, 0, (l[k].blts.length : Int)⟩] := rfl
              have hll := flat_len (fndX m) (fndX_len m) (l.take k)
              have hll2 : (LM ++ (l.take k).flatMap (fndX m)).length ≤ 100000000 := by rw [List.length_append]; rw [List.length_take] at hll; omega
              have hlk := ((hsl.out.below (below_new wr (.cells #[.string l[k].name, .slice a3 l[k].blts.length cap3] 55))).look_bool (string_keyed Tryz.underlying9) Tryz.underlying98 Tryz.underlying4 (by kernel_rfl) hkey)
              have hsl1 := hsl.out.below (below_new wr (.cells #[.string l[k].name, .slice a3 l[k].blts.length cap3] 55))
              rw [Hgl.out] at hlk
              have hbx1 := box_old (.cells #[.string l[k].name, .slice a3 l[k].blts.length cap3] 55) hbx.out
              have hown1 := Own.below (S := fun _ => False) (dFnd.stable _) hown.out (below_new wr (.cells #[.string l[k].name, .slice a3 l[k].blts.length cap3] 55))
              have hb1 : Below w.heap.size w (wr.alloc (.cells #[.string l[k].name, .slice a3 l[k].blts.length cap3] 55)) := hb.alloc hlr _
              have Hfs := Lib.hid hfs; have Hll2 := Lib.hid hll2; have Hsl1 := Lib.hid hsl1; have Hbx1 := Lib.hid hbx1; have Hown1 := Lib.hid hown1; have Hnl := Lib.hid hnl; have Hl3 := Lib.hid hl3; have Hb1 := Lib.hid hb1
              clear hkey hfs hll hll2 hsl1 hx hbx1 hown1 hsl hbx hown hb1
              cases hh : hasN m l[k].name.data.toList
              · rw [hh] at hlk hfx0
                have Hfx0 := Lib.hid hfx0
                clear hh hfx0
                go_wp2_with (go_at_fn 39; refine (putF w2.heap.size (wa.heap.size + 1) n ax cp _ ⟨3, l[k].name, 0, (l[k].blts.length : Int)⟩ _ Hbx1.out (by omega) (by simp; omega) Hown1.out Hll2.out (show (Lit.int .u8 3).wf = true by decide) Hnl.out (show (Lit.int .i64 0).wf = true by decide) (wf_len Hl3.out)).mono ?_; rintro e w7 ⟨⟨u7, rfl⟩, a7, c7, hbx7, hown7, hfr7⟩; have hb7 := hfr7.below hl2 (by omega) Hb1.out; have hs7 := hfr7.2.2.2.1; have hm7 := Hsl1.out.block (hfr7.2.2.2.2 wa.heap.size (by omega) (by omega)); have Hbx7 := Lib.hid hbx7; have Hown7 := Lib.hid hown7; have Hm7 := Lib.hid hm7; have Hfr7 := Lib.hid hfr7; clear hbx7 hown7 hm7 hfr7)
                exact ⟨⟨k + 1, a7, n + 1, c7, by omega, by go_num, Hm7, Hbx7, Lib.hid (by rw [Hfs.out, Hfx0.out, ← List.append_assoc]; exact Hown7.out), by simp at hs7; omega, hb7⟩, by simp [intOf]; omega⟩
              · rw [hh] at hlk hfx0
                have Hfx0 := Lib.hid hfx0
                clear hh hfx0
                go_wp2
                exact ⟨⟨k + 1, ax, n, cp, by omega, by go_num, Hsl1, Hbx1, Lib.hid (by rw [Hfs.out, Hfx0.out, if_pos rfl, List.append_nil]; exact Hown1.out), by simp; omega, Hb1.out⟩, by simp [intOf]; omega⟩
            · have hk' : k = l.length := by omega
              subst hk'
              have hol := hown.out
              rw [List.take_length] at hol
              have Hol := Lib.hid hol
              have hrl : recL m l voted = LM ++ l.flatMap (fndX m) ++ fndV A voted := by rw [recL, ← HLM.out, ← HAl.out]
              have Hrl := Lib.hid hrl
              have hlenX := flat_len (fndX m) (fndX_len m) l
              have hll2 : (LM ++ l.flatMap (fndX m)).length ≤ 100000000 := by rw [List.length_append]; omega
              have Hll2 := Lib.hid hll2
              obtain ⟨-, hcb, hfb⟩ := own_box (Below.refl _ _) (size_of_box hbx.out) hbx.out
              have hAw : Hid ((Lit.int .i64 A).wf = true) := Lib.hid (by obtain ⟨q', rfl⟩ : ∃ q' : Nat, A = q' := ⟨A.toNat, by omega⟩; exact wf_len (by omega))
              clear hol hown hrl hll2 hlenX hlenM
              by_cases hav : A = voted
              · have hne : (A != voted) = false := by simpa using hav
                have Hav := Lib.hid hav
                clear hav
                go_wp2
                go_ret2
                exact HG.out _ _ _ (by rw [Hrl.out, fndV, if_pos Hav.out, List.append_nil]; exact Hol.out) (by have := hb0size; omega) hb
              · have hne : (A != voted) = true := by simpa using hav
                have Hav := Lib.hid hav
                clear hav
                go_wp2_with (go_at_fn 39; refine (putF w2.heap.size (wa.heap.size + 1) n ax cp _ ⟨4, ⟨#[]⟩, voted, A⟩ _ hbx.out (by omega) (by omega) Hol.out Hll2.out (show (Lit.int .u8 4).wf = true by decide) (show (0 : Nat) ≤ _ by omega) Hvw.out hAw.out).mono ?_; rintro e w7 ⟨⟨u7, rfl⟩, a7, c7, hbx7, hown7, hfr7⟩; have hb7 := hfr7.below hl2 (by omega) hb; obtain ⟨-, hcb7, hfb7⟩ := own_box (Below.refl _ _) (size_of_box hbx7) hbx7; have hlt7 := size_of_box hbx7; have Hown7 := Lib.hid hown7; have Hfr7 := Lib.hid hfr7; clear hbx7 hown7 hfr7)
                go_ret2
                exact HG.out _ _ _ (by rw [Hrl.out, fndV, if_neg Hav.out]; exact Hown7.out) (by have := hb0size; omega) hb7
theorem canvassReconcile (S : Nat → Prop) (u v : Value) (m : List Slot) (l : List Btc) (c kind voted : Int) (w : World) (hx : RSl S 2 dSlot w u m) (hy : RBtcs S w v l) (hlm : m.length ≤ 1000) (hsm : Small l) (hvw : (Lit.int .i64 voted).wf = true) :
    Calls Tryz.prog 14 #[u, v, .int .i64 c, .int .u8 kind, .int .i64 voted] w (RecoGives m l c kind voted w) := by
  by_cases h : chkS m = 0 ∧ recCheck l c kind = 0 ∧ 0 ≤ voted
  · exact canvassReco_main S u v m l c kind voted w hx hy hlm hsm hvw h.1 h.2.1 h.2.2
  · exact canvassReco_bad S u v m l c kind voted w hx hy h
end Go.Proofs.YtopdfijojjbjdaaGreat

/- The examples of the chapter on the canvass: alive returns true. -/
namespace Go.Proofs.YtopdfijojjbjdaaGreat
open Go Go.RowKit Go.Shelf Limb

def mA : List Slot := [⟨⟨#[120]⟩, 2⟩, ⟨⟨#[121]⟩, 1⟩]
def lA : List Btc := [⟨⟨#[120]⟩, blanks 2⟩, ⟨⟨#[122]⟩, blanks 1⟩]
def fA : List Fnd := [⟨1, ⟨#[121]⟩, 1, 0⟩, ⟨3, ⟨#[122]⟩, 0, 1⟩, ⟨4, ⟨#[]⟩, 4, 3⟩]
theorem recoI_A : recoI mA lA 2 1 4 = 0 := by kernel_rfl
theorem recoV_A : recoV mA lA 2 1 4 = fA := by kernel_rfl
theorem due_A5 : dueR 5 1000 false [1] [200] = (true, 0) := by kernel_rfl
theorem due_A6 : dueR 6 1000 false [1] [200] = (false, 0) := by kernel_rfl
theorem of_A (w : World) : Calls Tryz.prog 16 #[.int .i64 1, .int .i64 200] w fun e w' => ∃ a c a' c', e = .returned (.tuple #[.agg #[.bool false, .slice a 1 c, .slice a' 1 c'], .int .i64 0]) ∧ RU Any w' (.slice a 1 c) [1] ∧ RU Any w' (.slice a' 1 c') [200] ∧ Below w.heap.size w w' := by
  have h := ratOf 1 200 w (by omega) (by omega) (by omega)
  have e0 : Nat.gcd 1 200 = 1 := by decide
  rw [e0, show 1 / 1 = 1 from rfl, show 200 / 1 = 200 from rfl, lim_small (n := 1) (by omega) (by omega), lim_small (n := 200) (by omega) (by omega)] at h
  refine h.mono ?_
  rintro e w' ⟨a, c, a', c', rfl, h1, h2, hb⟩
  have k1 := h1.ru
  have k2 := h2.ru
  rw [lim_small (n := 1) (by omega) (by omega)] at k1
  rw [lim_small (n := 200) (by omega) (by omega)] at k2
  exact ⟨a, c, a', c', rfl, k1, k2, hb⟩
set_option maxHeartbeats 4000000 in
set_option maxRecDepth 100000 in
theorem alive27 (w : World) : Calls Tryz.prog 4 #[] w fun e w' => e = .returned (.bool true) ∧ Below w.heap.size w w' := by
  have hR : ∀ W p q, RSl Any 2 dSlot W p mA → RBtcs Any W q lA → Calls Tryz.prog 14 #[p, q, .int .i64 2, .int .u8 1, .int .i64 4] W fun e W' => ∃ a c, e = .returned (.tuple #[.slice a 3 c, .int .i64 0]) ∧ RSl Any 4 dFnd W' (.slice a 3 c) fA ∧ Below W.heap.size W W' := by
    intro W p q hp hq
    refine (canvassReconcile Any p q mA lA 2 1 4 W hp hq (by decide) ⟨by decide, by decide⟩ (by decide)).mono ?_
    rintro e W' ⟨v, he, ho, hb⟩
    rw [recoI_A] at he
    rw [recoV_A] at ho
    obtain ⟨a, c, rfl⟩ := Own.shape ho
    exact ⟨a, c, he, RSl.mono (fun _ _ _ h => h) (fun _ _ => trivial) (Own.rsl ho (by decide)), hb⟩
  have hS : ∀ W p q, RSl Any 4 dFnd W p fA → RSl Any 4 dFnd W q fA → Calls Tryz.prog 18 #[p, q] W fun e W' => e = .returned (.bool true) ∧ Below W.heap.size W W' := by
    intro W p q hp hq
    have := sameFnds Any Any p q fA fA W hp hq
    rwa [eqL_refl eqFnd_refl] at this
  have hD5 : ∀ W u v, RU Any W u [1] → RU Any W v [200] → Calls Tryz.prog 17 #[.int .i64 5, .int .i64 1000, .agg #[.bool false, u, v]] W fun e W' => e = .returned (.tuple #[.bool true, .int .i64 0]) ∧ Below W.heap.size W W' := by
    intro W u v hu hv
    have := canvassDue Any Any 5 1000 false u v [1] [200] W hu hv
    rwa [due_A5] at this
  have hD6 : ∀ W u v, RU Any W u [1] → RU Any W v [200] → Calls Tryz.prog 17 #[.int .i64 6, .int .i64 1000, .agg #[.bool false, u, v]] W fun e W' => e = .returned (.tuple #[.bool false, .int .i64 0]) ∧ Below W.heap.size W W' := by
    intro W u v hu hv
    have := canvassDue Any Any 6 1000 false u v [1] [200] W hu hv
    rwa [due_A6] at this
  have hb1 := below_new w (.cells #[.string ⟨#[120]⟩, .int .i64 2, .string ⟨#[121]⟩, .int .i64 1] 51)
  have hM : RSl Any 2 dSlot (w.alloc (.cells #[.string ⟨#[120]⟩, .int .i64 2, .string ⟨#[121]⟩, .int .i64 1] 51)) (.slice (some ⟨w.heap.size, 0, none⟩) 2 2) mA :=
    RSl.lay (cells := [.string ⟨#[120]⟩, .int .i64 2] ++ [.string ⟨#[121]⟩, .int .i64 1]) (xs := ([⟨⟨#[120]⟩, 2⟩] : List Slot) ++ ([⟨⟨#[121]⟩, 1⟩] : List Slot)) trivial (box_new w _) (Dec.append (Dec.single rfl ⟨rfl, by decide, by decide⟩) (Dec.single rfl ⟨rfl, by decide, by decide⟩)) (by decide)
  have hL : ∀ (W : World) a1 c1 a2 c2, RBlts Any W (.slice a1 2 c1) (blanks 2) → RBlts Any W (.slice a2 1 c2) (blanks 1) → RBtcs Any (W.alloc (.cells #[.string ⟨#[120]⟩, .slice a1 2 c1, .string ⟨#[122]⟩, .slice a2 1 c2] 55)) (.slice (some ⟨W.heap.size, 0, none⟩) 2 2) lA := fun W a1 c1 a2 c2 h1 h2 =>
    RSl.lay (cells := [.string ⟨#[120]⟩, .slice a1 2 c1] ++ [.string ⟨#[122]⟩, .slice a2 1 c2]) (xs := ([⟨⟨#[120]⟩, blanks 2⟩] : List Btc) ++ ([⟨⟨#[122]⟩, blanks 1⟩] : List Btc)) trivial (box_new W _) (Dec.append (Dec.single rfl ⟨_, rfl, by decide, h1.same (.of_below (below_new _ _))⟩) (Dec.single rfl ⟨_, rfl, by decide, h2.same (.of_below (below_new _ _))⟩)) (by decide)
  have hF : ∀ W : World, RSl Any 4 dFnd (W.alloc (.cells #[.int .u8 1, .string ⟨#[121]⟩, .int .i64 1, .int .i64 0, .int .u8 3, .string ⟨#[122]⟩, .int .i64 0, .int .i64 1, .int .u8 4, .string ⟨#[]⟩, .int .i64 4, .int .i64 3] 65)) (.slice (some ⟨W.heap.size, 0, none⟩) 3 3) fA := fun W =>
    RSl.lay (cells := [.int .u8 1, .string ⟨#[121]⟩, .int .i64 1, .int .i64 0] ++ ([.int .u8 3, .string ⟨#[122]⟩, .int .i64 0, .int .i64 1] ++ [.int .u8 4, .string ⟨#[]⟩, .int .i64 4, .int .i64 3])) (xs := ([⟨1, ⟨#[121]⟩, 1, 0⟩] : List Fnd) ++ (([⟨3, ⟨#[122]⟩, 0, 1⟩] : List Fnd) ++ ([⟨4, ⟨#[]⟩, 4, 3⟩] : List Fnd))) trivial (box_new W _)
      (Dec.append (Dec.single rfl ⟨rfl, by decide, by decide, by decide, by decide⟩) (Dec.append (Dec.single rfl ⟨rfl, by decide, by decide, by decide, by decide⟩) (Dec.single rfl ⟨rfl, by decide, by decide, by decide, by decide⟩))) (by decide)
  have HR := Lib.hid hR; have HS := Lib.hid hS; have HD5 := Lib.hid hD5; have HD6 := Lib.hid hD6; have HM := Lib.hid hM; have HL := Lib.hid hL; have HF := Lib.hid hF
  have flag := Lib.hid True.intro
  clear hR hS hD5 hD6 hM hL hF
  go_enter Tryz.func4, Tryz.ntmps4
  go_wp2_with (first
    | (go_at_call 15; clear flag; refine (batch27 _ 2 _ (by omega)).mono ?_; rintro e w2 ⟨a1, c1, rfl, hr1, hb2⟩; have hz1 := hb1.size; have hp2 := hb1.trans (hb2.mono hz1); have hz2 := hb2.size; have hy2 := hp2.size; have Hr1 := Lib.hid hr1; clear hr1)
    | (go_at_call 15; refine (batch27 _ 1 _ (by omega)).mono ?_; rintro e w3 ⟨a2, c2, rfl, hr2, hb3⟩; have hp3 := hp2.trans (hb3.mono hy2); have hz3 := hp3.size; have Hr2 := Lib.hid hr2; clear hr2; have HLL := Lib.hid (HL.out w3 a1 c1 a2 c2 (Hr1.out.same (.of_below hb3)) Hr2.out); have HMM := Lib.hid (RSl.same (dSlot.stable _) (.of_below (below_new w3 (.cells #[.string ⟨#[120]⟩, .slice a1 2 c1, .string ⟨#[122]⟩, .slice a2 1 c2] 55))) (RSl.same (dSlot.stable _) (.of_below (hb2.trans (hb3.mono hz2))) HM.out)))
    | (go_at_call 14; refine (HR.out _ _ _ HMM.out HLL.out).mono ?_; rintro e w4 ⟨a3, c3, rfl, hr4, hb4⟩; have hp4 := hp3.trans ((below_new w3 _).trans (hb4.mono (by simp)) |>.mono hz3); have hz4 := hp4.size; have Hr4 := Lib.hid hr4; clear hr4)
    | (go_at_call 16; refine (of_A _).mono ?_; rintro e w5 ⟨a4, c4, a5, c5, rfl, hu, hv, hb5⟩; have hp5 := hp4.trans (hb5.mono hz4); have hz5 := hp5.size; have hbx5 := below_new w5 (.cells #[.bool false, .slice a4 1 c4, .slice a5 1 c5] 59); have gx5 := box_new w5 (.cells #[.bool false, .slice a4 1 c4, .slice a5 1 c5] 59); have Hu := Lib.hid hu; have Hv := Lib.hid hv; have Hgx5 := Lib.hid gx5; clear hu hv gx5)
    | (go_at_call_of 17 (5 : Int); refine (HD5.out _ _ _ (Hu.out.below hbx5) (Hv.out.below hbx5)).mono ?_; rintro e w6 ⟨rfl, hb6⟩; obtain ⟨gx6, hc6, hf6⟩ := own_box hb6 (by simp) Hgx5.out; have hq6 := hbx5.trans (hb6.mono (by simp)); have hz6 := hq6.size)
    | (go_at_call_of 17 (6 : Int); refine (HD6.out _ _ _ (Hu.out.below hq6) (Hv.out.below hq6)).mono ?_; rintro e w7 ⟨rfl, hb7⟩; have hq7 := hq6.trans (hb7.mono hz6); have hp7 := hp5.trans (hq7.mono hz5); have hz7 := hp7.size)
    | (go_at_call 18; refine (HS.out _ _ _ (RSl.same (dFnd.stable _) (.of_below (below_new w7 _)) (RSl.same (dFnd.stable _) (.of_below (hb5.trans (hq7.mono hb5.size))) Hr4.out)) (HF.out w7)).mono ?_; rintro e w8 ⟨rfl, hb8⟩; have hp8 := hp7.trans (((below_new w7 _).trans (hb8.mono (by simp))).mono hz7)))
  go_ret
  exact ⟨rfl, hp8⟩
end Go.Proofs.YtopdfijojjbjdaaGreat
