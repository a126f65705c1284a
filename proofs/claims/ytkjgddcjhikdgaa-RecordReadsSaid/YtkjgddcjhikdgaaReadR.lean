/- The contract of the reference's Read. -/
import Derived.Test.YtkjgddcjhikdgaaRead
namespace Go.Proofs.Ytkjgddcjhikdgaa
open Go Go.RowKit Go.Shelf

set_option maxHeartbeats 8000000 in
set_option maxRecDepth 100000 in
theorem refRead (S : Nat → Prop) (v : Value) (xs : List Int) (w : World) (h : RBytes S w v xs) (hl : xs.length ≤ 1000000) :
    Calls Try.prog 46 #[v] w (ReadGives xs w) := by
  have hW : Below w.heap.size w (w.alloc (.cells #[.string ⟨#[]⟩, .slice none 0 0] 64)) := below_new _ _
  have hSp := refSplit S v xs (w.alloc (.cells #[.string ⟨#[]⟩, .slice none 0 0] 64)) (h.same (.of_below hW)) hl
  have hbx := box_new w (.cells #[.string ⟨#[]⟩, .slice none 0 0] 64)
  have hlen := splitV_len xs
  have heach := splitV_each xs
  have hBad : ∀ i w', readI xs = i → i ≠ 0 → Below w.heap.size w w' → _ := fun i w' => ReadGives.bad (xs := xs) (w := w) (w' := w') (i := i)
  have hGood : ∀ w' a n c, readI xs = 0 → RBlts Any w' (.slice a n c) (btcOf (splitV xs)).blts → Below w.heap.size w w' → _ := fun w' a n c => ReadGives.good (xs := xs) (w := w) (w' := w') (a := a) (n := n) (c := c) (l := splitV xs) rfl
  obtain ⟨E, hE⟩ : ∃ E, splitE xs = E := ⟨_, rfl⟩
  obtain ⟨l, hL⟩ : ∃ l, splitV xs = l := ⟨_, rfl⟩
  have hI : readI xs = if E ≠ 0 then E else if fieldsOk l then (if recCheck [btcOf l] (candsOf l) (kindOf l) = 0 then 0 else 11) else 11 := by rw [readI, hE, hL]
  unfold SplitGives at hSp
  rw [hE, hL] at hSp
  rw [hL] at hlen heach hGood
  obtain ⟨a, cap, rfl, h1, h2⟩ := RSl.shape h
  clear hE hL
  by_cases hE : E = 0
  case neg =>
    rw [if_pos hE] at hI
    have hB := fun w' => hBad _ w' hI hE
    have HSp := Lib.hid hSp; have HB := Lib.hid hB; have Hbx := Lib.hid hbx
    clear hSp hB hBad hGood hI heach h hbx hlen hW
    go_enter Try.func46, Try.ntmps46
    go_wp2_with (go_at_call 89; refine HSp.out.mono ?_; rintro e w2 ⟨v2, rfl, ho2, hb2⟩; obtain ⟨a2, c2, rfl⟩ := ho2.shape; obtain ⟨gx1, hcx1, hfx1⟩ := own_box hb2 (by simp) Hbx.out)
    exact bodyPost_ret (v := .tuple #[.agg #[.string ⟨#[]⟩, .slice none 0 0], .int .i64 0, .int .u8 0, .int .i64 E]) (by simp [results, Try.results46, go_sem, hcx1]) rfl (HB.out _ ((((below_new w _).trans (hb2.mono (by simp))).setCell (p := ⟨w.heap.size, 0, none⟩) (Nat.le_refl _) _).setCell (p := ⟨w.heap.size, 1, none⟩) (Nat.le_refl _) _))
  subst hE
  rw [if_neg (by simp)] at hI
  by_cases hln : l.length < 2
  · have hB := fun w' => hBad 11 w' (by rw [hI, fieldsOk, if_neg]; simp; omega) (by omega)
    have HSp := Lib.hid hSp; have HB := Lib.hid hB; have Hbx := Lib.hid hbx
    clear hSp hB hBad hGood hI heach h hbx hlen hW
    have hlni : (l.length : Int) < 2 := by omega
    go_enter Try.func46, Try.ntmps46
    go_wp2_with (go_at_call 89; refine HSp.out.mono ?_; rintro e w2 ⟨v2, rfl, ho2, hb2⟩; obtain ⟨a2, c2, rfl⟩ := ho2.shape; obtain ⟨gx1, hcx1, hfx1⟩ := own_box hb2 (by simp) Hbx.out)
    exact bodyPost_ret (v := .tuple #[.agg #[.string ⟨#[]⟩, .slice none 0 0], .int .i64 0, .int .u8 0, .int .i64 11]) (by simp [results, Try.results46, go_sem, hcx1]) rfl (HB.out _ ((((below_new w _).trans (hb2.mono (by simp))).setCell (p := ⟨w.heap.size, 0, none⟩) (Nat.le_refl _) _).setCell (p := ⟨w.heap.size, 1, none⟩) (Nat.le_refl _) _))
  have hlni : ¬ (l.length : Int) < 2 := by omega
  have hk1 : 1 < l.length := by omega
  have hfld : ∀ w2 v2, OwnX (w.alloc (.cells #[.string ⟨#[]⟩, .slice none 0 0] 64)).heap.size 61 1 dField w2 v2 l → RSl (Span (w.heap.size + 1) w2.heap.size) 1 (dField (Span (w.heap.size + 1) w2.heap.size)) w2 v2 l := fun w2 v2 ho => by
    have := OwnX.rsl famField (by omega) ho (by omega)
    rwa [World.size_alloc] at this
  by_cases hf1 : l[1].length = 2
  case neg =>
    have hB := fun w' => hBad 11 w' (by rw [hI, fieldsOk, if_neg]; rw [List.getD, List.getElem?_eq_getElem hk1]; simp; omega) (by omega)
    have HSp := Lib.hid hSp; have HB := Lib.hid hB; have Hbx := Lib.hid hbx; have Hfld := Lib.hid hfld
    clear hSp hB hBad hGood hI heach h hbx hlen hW hfld
    have hf1i : ((l[1].length : Int) != 2) = true := bne_iff_ne.2 (by omega)
    go_enter Try.func46, Try.ntmps46
    go_wp2_with (go_at_call 89; refine HSp.out.mono ?_; rintro e w2 ⟨v2, rfl, ho2, hb2⟩; obtain ⟨a2, c2, rfl⟩ := ho2.shape; obtain ⟨gx1, hcx1, hfx1⟩ := own_box hb2 (by simp) Hbx.out; obtain ⟨b2, off2, a3, c3, rfl, -, -, hc3, -⟩ := RSl.field (Hfld.out _ _ ho2) hk1)
    exact bodyPost_ret (v := .tuple #[.agg #[.string ⟨#[]⟩, .slice none 0 0], .int .i64 0, .int .u8 0, .int .i64 11]) (by simp [results, Try.results46, go_sem, hcx1]) rfl (HB.out _ ((((below_new w _).trans (hb2.mono (by simp))).setCell (p := ⟨w.heap.size, 0, none⟩) (Nat.le_refl _) _).setCell (p := ⟨w.heap.size, 1, none⟩) (Nat.le_refl _) _))
  obtain ⟨p, q, hpq⟩ : ∃ p q, l[1] = [p, q] := by
    match hh : l[1], hf1 with
    | [p, q], _ => exact ⟨p, q, rfl⟩
  have hgd : l.getD 1 [] = [p, q] := by rw [List.getD, List.getElem?_eq_getElem hk1, hpq]; rfl
  have hcands : candsOf l = p := by rw [candsOf, hgd]; rfl
  have hkind : kindOf l = q := by rw [kindOf, hgd]; rfl
  have hname : (btcOf l).name = strOfNums l[0] := by rw [btcOf, List.getD, List.getElem?_eq_getElem (by omega)]; rfl
  have hblts : (btcOf l).blts = (l.drop 2).map (fun f => (⟨q, f⟩ : Blt)) := by rw [btcOf, hkind]
  have hfok : fieldsOk l = true := by rw [fieldsOk, hgd]; simp; omega
  rw [hfok, if_pos rfl, hcands, hkind] at hI
  rw [hcands, hkind, hname, hblts] at hGood
  have hbtc : btcOf l = ⟨strOfNums l[0], (l.drop 2).map (fun f => (⟨q, f⟩ : Blt))⟩ := by
    have : btcOf l = ⟨(btcOf l).name, (btcOf l).blts⟩ := rfl
    rw [this, hname, hblts]
  rw [hbtc] at hI
  obtain ⟨s0, hs0⟩ : ∃ s0, strOfNums l[0] = s0 := ⟨_, rfl⟩
  have hs0l : s0.size ≤ 16384 := by rw [← hs0, strOfNums_size]; exact heach _ (List.getElem_mem _)
  have hFa : ∀ w2 a2 c2, OwnX (w.alloc (.cells #[.string ⟨#[]⟩, .slice none 0 0] 64)).heap.size 61 1 dField w2 (.slice a2 l.length c2) l →
      ∃ b2 off2 a0 c0 b4 off4 c4, a2 = some ⟨b2, off2, none⟩ ∧ l.length ≤ c2 ∧ w.heap.size < b2 ∧ w.heap.size < b4 ∧ w2.cell? ⟨b2, off2, none⟩ = some (.slice a0 l[0].length c0) ∧ w2.cell? ⟨b2, off2 + 1, none⟩ = some (.slice (some ⟨b4, off4, none⟩) 2 c4) ∧
        w2.cell? ⟨b4, off4, none⟩ = some (.int .u8 p) ∧ w2.cell? ⟨b4, off4 + 1, none⟩ = some (.int .u8 q) ∧ (∀ W, Same (From (w.heap.size + 1)) w2 W → (convert 61 9 (.slice a0 l[0].length c0)).run Try.prog W = .ok (.string s0) W) ∧ (0 ≤ p ∧ p ≤ 255) ∧ (0 ≤ q ∧ q ≤ 255) := by
    intro w2 a2 c2 ho
    have hr := hfld _ _ ho
    obtain ⟨b2, off2, a0, c0, rfl, hS2, -, hc0, hr0⟩ := RSl.field hr (k := 0) (by omega)
    obtain ⟨b3, off3, a1, c1, e, -, -, hc1, hr1⟩ := RSl.field hr hk1
    simp only [Option.some.injEq, Addr.mk.injEq, and_true] at e
    obtain ⟨rfl, rfl⟩ := e
    have hr1' : RBytes (Span (w.heap.size + 1) w2.heap.size) w2 (.slice a1 2 c1) [p, q] := by rw [hpq] at hr1; exact hr1
    obtain ⟨b4, off4, rfl, hb4, hd0, hp0, hp1⟩ := RBytes.byte hr1' (k := 0) (by simp)
    obtain ⟨b5, off5, e, -, hd1, hq0, hq1⟩ := RBytes.byte hr1' (k := 1) (by simp)
    simp only [Option.some.injEq, Addr.mk.injEq, and_true] at e
    obtain ⟨rfl, rfl⟩ := e
    have hr4 := RSl.get1 hr1' 0 (by simp)
    obtain ⟨b6, off6, cap6, c6, e6, hS6, -, -⟩ := hr4
    simp only [Value.slice.injEq, Option.some.injEq, Addr.mk.injEq, and_true] at e6
    obtain ⟨⟨rfl, rfl⟩, -, rfl⟩ := e6
    obtain ⟨a7, cp, e7, hcl, -⟩ := RSl.shape hr
    simp only [Value.slice.injEq] at e7
    obtain ⟨-, -, rfl⟩ := e7
    have hcv := fun W (hW : Same (From (w.heap.size + 1)) w2 W) => RBytes.str (hr0.same (hW.mono fun b hb => hb.1))
    rw [hs0] at hcv
    rw [hpq] at hc1
    exact ⟨b2, off2, a0, c0, b4, off4, c1, rfl, hcl, by have := hS2.1; omega, by have := hS6.1; omega, hc0, hc1, hd0, hd1, hcv, ⟨hp0, hp1⟩, ⟨hq0, hq1⟩⟩
  rw [hs0] at hGood hI
  obtain ⟨R, hR⟩ : ∃ R, recCheck [(⟨s0, (l.drop 2).map (fun f => (⟨q, f⟩ : Blt))⟩ : Btc)] p q = R := ⟨_, rfl⟩
  have hChk := fun W v (hv : RBtcs Any W v [(⟨s0, (l.drop 2).map (fun f => (⟨q, f⟩ : Blt))⟩ : Btc)]) => refCheck Any v _ p q W hv
  rw [hR] at hI hChk
  have HChk := Lib.hid hChk
  clear hChk hR
  have HSp := Lib.hid hSp; have HBad := Lib.hid hBad; have HGood := Lib.hid hGood; have Hbx := Lib.hid hbx; have Hfld := Lib.hid hfld; have HFa := Lib.hid hFa; have HI := Lib.hid hI; have Heach := Lib.hid heach
  clear hSp hBad hGood hI heach h hbx hW hfld hFa hcands hkind hname hblts hfok hbtc hgd hf1 hpq hs0
  go_enter Try.func46, Try.ntmps46
  go_wp2_with (go_at_call 89; refine HSp.out.mono ?_; rintro e w2 ⟨v2, rfl, ho2, hb2⟩; obtain ⟨a2, c2, rfl⟩ := ho2.shape; obtain ⟨gx1, hcx1, hfx1⟩ := own_box hb2 (by simp) Hbx.out; obtain ⟨b2, off2, a0, c0, b4, off4, c4, rfl, hcl, hlt2, hlt4, k0, k1, k2, k3, k4, ⟨hp0, hp1⟩, ⟨hq0, hq1⟩⟩ := HFa.out _ _ _ ho2)
  have hk0i : l ≠ [] := fun e => by rw [e] at hk1; simp at hk1
  have hk0a : (0 : Int) < (l.length : Int) := by omega
  have hk0b : 0 < l.length := by omega
  have hk0c : (l.length : Int) ≠ 0 := by omega
  have hk0d : ¬ (l.length : Int) ≤ 0 := by omega
  have hcv0 := k4 w2 (Same.refl _ _)
  have hwp := wrap_u8 hp0 hp1
  have hB2 : w.heap.size < w2.heap.size := size_of_box gx1
  have hFd : ∀ W, Below w2.heap.size w2 W → ∀ k (hk : k < l.length), ∃ a' c', W.cell? ⟨b2, off2 + k, none⟩ = some (.slice a' l[k].length c') ∧ RBytes (Span (w.heap.size + 1) w2.heap.size) W (.slice a' l[k].length c') l[k] := by
    intro W hW k hk
    have hr := RSl.same (dField.stable _) (.of_below hW) (Hfld.out _ _ ho2)
    obtain ⟨b', off', a', c', e, -, -, hc, hr'⟩ := RSl.field hr hk
    simp only [Option.some.injEq, Addr.mk.injEq, and_true] at e
    obtain ⟨rfl, rfl⟩ := e
    exact ⟨a', c', hc, hr'⟩
  have hsp2a : b2 < w2.heap.size := lt_of_cell k0
  have HFd := Lib.hid hFd; have K4 := Lib.hid k4
  clear hFd k4
  go_wp2
  have j1 : (w2.alloc (.cells #[.string s0, .slice none 0 0] 64)).cell? ⟨b2, off2 + 1, none⟩ = some (.slice (some ⟨b4, off4, none⟩) 2 c4) := cell_later (below_new _ _) k1
  have j2 : (w2.alloc (.cells #[.string s0, .slice none 0 0] 64)).cell? ⟨b4, off4, none⟩ = some (.int .u8 p) := cell_later (below_new _ _) k2
  have j3 : (w2.alloc (.cells #[.string s0, .slice none 0 0] 64)).cell? ⟨b4, off4 + 1, none⟩ = some (.int .u8 q) := cell_later (below_new _ _) k3
  go_region_held3 (fun w' => w'.cell? ⟨b2, off2 + 1, none⟩ = some (.slice (some ⟨b4, off4, none⟩) 2 c4) ∧ w'.cell? ⟨b4, off4, none⟩ = some (.int .u8 p) ∧ w'.cell? ⟨b4, off4 + 1, none⟩ = some (.int .u8 q)) (go_keep) (fail)
  obtain ⟨w3, hw3⟩ : ∃ w3, w3 = (w2.alloc (.cells #[.string s0, .slice none 0 0] 64)).drew := ⟨_, rfl⟩
  have gx3 : w3.heap[w2.heap.size]? = some (.cells #[.string s0, .slice none 0 0] 64 (0, 0)) := by rw [hw3]; exact box_new w2 _
  have hb3 : Below w2.heap.size w2 w3 := by rw [hw3]; exact Below.drew (below_new _ _)
  have hz3 : w2.heap.size < w3.heap.size := size_of_box gx3
  have hbW : Below w.heap.size w w2 := (below_new w _).trans (hb2.mono (by simp))
  have Hgx1 := Lib.hid gx1
  rw [← hw3]
  clear hw3 k0 k1 k2 k3 j1 j2 j3 hcv0 gx1 hcx1 hfx1 ho2
  go_wp2
  go_loopw [11] (fun i wr => ∃ (k m : Nat) (ov : Value), i = .int .i64 m ∧ Hid (m = k + 2) ∧ m ≤ l.length ∧ k ≤ l.length ∧ wr.heap[w2.heap.size]? = some (.cells #[.string s0, ov] 64 (0, 0)) ∧ OwnX w3.heap.size 25 2 dBlt wr ov (((l.drop 2).take k).map (fun f => (⟨q, f⟩ : Blt))) ∧ Below w2.heap.size w2 wr ∧ w3.heap.size ≤ wr.heap.size) (fun i _ => l.length - (intOf i).toNat)
  case atStart => exact ⟨0, 2, _, rfl, Lib.hid rfl, by omega, Nat.zero_le _, gx3, by simpa using OwnX.nil _ _ _ _ _, hb3, Nat.le_refl _⟩
  case round =>
    obtain ⟨k, m, ov, rfl, hkm, hk2, hkl, hgB, hov, hbr, hzr⟩ := hrel
    have hnl : (((l.drop 2).take k).map (fun f => (⟨q, f⟩ : Blt))).length = k := by have := hkm.out; simp; omega
    obtain ⟨aov, cov, hsh⟩ := hov.shape
    rw [hnl] at hsh
    subst hsh
    obtain ⟨-, hcB, hfB⟩ := own_box (Below.refl _ wr) (size_of_box hgB) hgB
    have hcB0 : wr.cell? ⟨w2.heap.size, 0, none⟩ = some (.string s0) := hcB 0
    have hcB1 : wr.cell? ⟨w2.heap.size, 1, none⟩ = some (.slice aov k cov) := hcB 1
    have hfB1 := hfB 1
    clear hcB hfB
    by_cases hlt : m < l.length
    · obtain ⟨a', c', hcf, hrf⟩ := HFd.out wr hbr m hlt
      have hfl : l[m].length ≤ 16384 := Heach.out _ (List.getElem_mem _)
      have Hnl := Lib.hid hnl; have Hov := Lib.hid hov; have HgB := Lib.hid hgB; have Hhrf := Lib.hid hrf
      clear hnl hov hgB hrf
      go_wp2
      obtain ⟨wo, rfl⟩ : ∃ wo, wo = wr := ⟨_, rfl⟩
      have hBo : w2.heap.size < wo.heap.size := by omega
      go_loopw [13] (fun i wr => ∃ (j : Nat) (mv : Value), i = .int .i64 j ∧ j ≤ l[m].length ∧ wr.heap[wo.heap.size]? = some (.cells #[.int .u8 q, mv] 25 (0, 0)) ∧ Own (wo.heap.size + 1) 3 1 (dInt .i64) wr mv (l[m].take j) ∧ Below wo.heap.size wo wr ∧ wo.heap.size + 1 ≤ wr.heap.size) (fun i _ => l[m].length - (intOf i).toNat)
      case atStart => exact ⟨0, _, rfl, Nat.zero_le _, box_new _ _, Own.nil _ _ _ _ _, below_new _ _, by simp⟩
      case round =>
        obtain ⟨j, mv, rfl, hj, hgM, hmv, hbi, hzi⟩ := hrel
        have hml : (l[m].take j).length = j := by simp; omega
        obtain ⟨am, cm, hsm⟩ := Own.shape hmv
        rw [hml] at hsm
        subst hsm
        obtain ⟨-, hcM, hfM⟩ := own_box (Below.refl _ wr) (size_of_box hgM) hgM
        have hcM0 : wr.cell? ⟨wo.heap.size, 0, none⟩ = some (.int .u8 q) := hcM 0
        have hcM1 : wr.cell? ⟨wo.heap.size, 1, none⟩ = some (.slice am j cm) := hcM 1
        have hfM1 := hfM 1
        clear hcM hfM
        have hcf' := cell_later hbi hcf
        by_cases hjl : j < l[m].length
        · obtain ⟨bf, offf, rfl, hbf, hcb, hb0, hb255⟩ := RBytes.byte (RBytes.same (.of_below hbi) Hhrf.out) hjl
          have hwb := wrap_u8 hb0 hb255
          have hsp : bf < w2.heap.size := by
            obtain ⟨b9, off9, cap9, c9, e9, hS9, -, -⟩ := RSl.get1 Hhrf.out j hjl
            simp only [Value.slice.injEq, Option.some.injEq, Addr.mk.injEq, and_true] at e9
            rw [e9.1.1]; exact hS9.2
          have hb2w : b2 < wr.heap.size := lt_of_cell hcf'
          have hsp2 : b2 < w2.heap.size := hsp2a
          have hnw : Below wr.heap.size wr (wr.drew.alloc (.cells #[.int .i64 l[m][j]] 3)) := (Below.drew (Below.refl _ _)).alloc (Nat.le_refl _) _
          have hOw := Own.below (S := fun _ => False) (dInt.stable _ _) hmv hnw
          have hlo := fun b hbk => (Own.lt hmv b hbk).1
          have hu : RSl (From 0) 1 (dInt .i64) (wr.drew.alloc (.cells #[.int .i64 l[m][j]] 3)) (.slice (some ⟨wr.heap.size, 0, none⟩) 1 1) [l[m][j]] := RSl.built (Nat.zero_le _) (box_new wr.drew _) rfl ⟨rfl, kind_wf hb0 hb255⟩
          have hts : l[m].take (j + 1) = l[m].take j ++ [l[m][j]] := List.take_succ_eq_append_getElem hjl
          have Hml := Lib.hid hml; have HOw := Lib.hid hOw; have Hlo := Lib.hid hlo; have Hu := Lib.hid hu; have Hts := Lib.hid hts; have HgM := Lib.hid hgM; have Hnw := Lib.hid hnw
          clear hml hOw hlo hu hts hgM hmv hnw
          go_wp2
          have hlti : (m : Int) < (l.length : Int) := by omega
          have hjli : (j : Int) < (l[m].length : Int) := by omega
          have hneb : ∀ b, b < w2.heap.size → some b ≠ (Value.slice am j cm).ownBlock := fun b hb e => by have := Hlo.out b e.symm; omega
          have hneo : some wo.heap.size ≠ (Value.slice am j cm).ownBlock := fun e => by have := Hlo.out _ e.symm; omega
          have s1 : (wr.drew.alloc (.cells #[.int .i64 l[m][j]] 3)).cell? ⟨b2, off2 + m, none⟩ = some (.slice (some ⟨bf, offf, none⟩) l[m].length c') ∧ (wr.drew.alloc (.cells #[.int .i64 l[m][j]] 3)).cell? ⟨bf, offf + j, none⟩ = some (.int .u8 l[m][j]) :=
            ⟨cell_later (w := wr.drew) (below_new _ _) hcf', cell_later (w := wr.drew) (below_new _ _) hcb⟩
          have s2 : ∀ (w1 : World) (v' : Value), (wr.drew.alloc (.cells #[.int .i64 l[m][j]] 3)).grownBy w1 (Value.slice am j cm).ownBlock → (w1.setCell ⟨wo.heap.size, 1, none⟩ v').cell? ⟨b2, off2 + m, none⟩ = some (.slice (some ⟨bf, offf, none⟩) l[m].length c') ∧ (w1.setCell ⟨wo.heap.size, 1, none⟩ v').cell? ⟨bf, offf + j, none⟩ = some (.int .u8 l[m][j]) :=
            fun w1 v' hg => ⟨(World.cell?_setCell_other w1 _ _ _ (by intro hh; injection hh; omega)).trans (hg.cell s1.1 (hneb _ hsp2)), (World.cell?_setCell_other w1 _ _ _ (by intro hh; injection hh; omega)).trans (hg.cell s1.2 (hneb _ hsp))⟩
          have s3 : ∀ (w1 : World), (wr.drew.alloc (.cells #[.int .i64 l[m][j]] 3)).grownBy w1 (Value.slice am j cm).ownBlock → w1.cell? ⟨b2, off2 + m, none⟩ = some (.slice (some ⟨bf, offf, none⟩) l[m].length c') ∧ w1.cell? ⟨bf, offf + j, none⟩ = some (.int .u8 l[m][j]) :=
            fun w1 hg => ⟨hg.cell s1.1 (hneb _ hsp2), hg.cell s1.2 (hneb _ hsp)⟩
          have s5 : (wr.drew.alloc (.cells #[.int .i64 l[m][j]] 3)).cell? ⟨wo.heap.size, 1, none⟩ = some (.slice am j cm) := cell_later (w := wr.drew) (below_new _ _) hcM1
          have s4 : ∀ w1 : World, (wr.drew.alloc (.cells #[.int .i64 l[m][j]] 3)).grownBy w1 (Value.slice am j cm).ownBlock → w1.heap[wo.heap.size]? = some (.cells #[.int .u8 q, .slice am j cm] 25 (0, 0)) := fun w1 hg => (hg.block _ (by simp; omega) hneo).trans (box_old _ HgM.out)
          have s6 : (wr.alloc (.cells #[.int .i64 l[m][j]] 3)).cell? ⟨wo.heap.size, 1, none⟩ = some (.slice am j cm) := cell_later (below_new _ _) hcM1
          have S1 := Lib.hid s1; have S2 := Lib.hid s2; have S3 := Lib.hid s3; have S4 := Lib.hid s4
          clear s1 s2 s3 s4 hneb hneo
          go_region_law ((refine step_appV _ Try.infoInt rfl rfl Try.underlying23 ⟨rfl, by omega, by omega⟩ (dInt.one _) (dInt.stable (fun _ => False) _) (wo.heap.size + 1) HOw.out rfl Hu.out rfl (by rw [Hml.out]; simp; omega) (by simp; omega) ?_; intro a1 n1 c1 w1 hg hat ho1; obtain ⟨-, q1, q2⟩ := own_box (Below.refl _ w1) (size_of_box (S4.out w1 hg)) (S4.out w1 hg); have q21 := q2 1))
          all_goals
            have ho2 := ho1 (fun _ _ h => h.elim)
            have hgM1 := S4.out w1 hg
            have hgr : (wr.drew.alloc (.cells #[.int .i64 l[m][j]] 3)).grownBy w1 (Value.slice am j cm).ownBlock := hg
            have Ho2 := Lib.hid ho2; have Hg := Lib.hid hgr; have Hat := Lib.hid hat; clear ho1 ho2 hg hgr hat
            go_wp2
            refine ⟨⟨j + 1, .slice a1 n1 c1, by go_num, by omega, heap_setCell_at (o := 1) hgM1 _, ?_, ?_, ?_⟩, by simp [intOf]; omega⟩
            · rw [Hts.out]
              exact Own.setCell (dInt.stable (fun _ => False) _) Ho2.out (p := ⟨wo.heap.size, 1, none⟩) (by simp) (fun h => h) _
            · exact ((hbi.trans (Hnw.out.mono (by omega))).grown Hg.out (by simp; omega) (fun b hb => by have := Hlo.out b hb; omega)).setCell (p := ⟨wo.heap.size, 1, none⟩) (Nat.le_refl _) _
            · rw [size_setCell']; have := Hg.out.size; simp at this; omega
        · have hje : j = l[m].length := by omega
          rw [List.take_of_length_le (by omega)] at hmv
          have gB := keep_box (hbi.mono (Nat.le_refl _)) HgB.out
          obtain ⟨-, hcB, hfB⟩ := own_box (Below.refl _ wr) (size_of_box gB) gB
          have kB1 : wr.cell? ⟨w2.heap.size, 1, none⟩ = some (.slice aov k cov) := hcB 1
          have kfB1 := hfB 1
          have hovr := Hov.out.below famBlt hbi
          have hso := hbi.size
          have hmk := marks_here hmv (by omega) Hov.out (base := w3.heap.size) (by omega) (by omega)
          have hD : dBlt (Rg w3.heap.size (wr.alloc (.cells #[.int .u8 q, .slice am j cm] 25)) (.slice aov k cov)) (wr.alloc (.cells #[.int .u8 q, .slice am j cm] 25)) [.int .u8 q, .slice am j cm] ⟨q, l[m]⟩ :=
            ⟨_, rfl, hq0, hq1, RInts.mono (fun b (hb : Rg w3.heap.size wr (.slice aov k cov) b) => ⟨hb.1, by have := hb.2.1; rw [World.size_alloc]; omega, hb.2.2⟩) (RInts.same (.of_below (below_new _ _)) hmk)⟩
          have hO2 := hovr.below famBlt (below_new wr (.cells #[.int .u8 q, .slice am j cm] 25))
          have hts : ((l.drop 2).take (k + 1)).map (fun f => (⟨q, f⟩ : Blt)) = ((l.drop 2).take k).map (fun f => (⟨q, f⟩ : Blt)) ++ [⟨q, l[m]⟩] := by
            have hkm' := hkm.out
            subst hkm'
            rw [take_drop_succ hlt, List.map_append]; rfl
          have hne : ∀ b, b < w3.heap.size → some b ≠ (Value.slice aov k cov).ownBlock := fun b hb e => by have := (Own.lt hO2 b e.symm).1; omega
          have HD := Lib.hid hD; have HO2 := Lib.hid hO2; have Hts := Lib.hid hts; have HgB2 := Lib.hid gB; have Hne := Lib.hid hne
          clear hcB hfB hovr hmk hD hO2 hts gB hmv hje hgM hne
          go_wp2_with (at_builtin; go_must (refine wpList_appX _ Try.infoBlt rfl rfl Try.underlying62 ⟨rfl, by omega, by omega⟩ famBlt w3.heap.size HO2.out rfl (g := wr.heap.size) (cs := [.int .u8 q, .slice am j cm]) (y := ⟨q, l[m]⟩) (box_new _ _) rfl HD.out rfl (by rw [Hnl.out]; omega) (by simp; omega) ?_); go_must (intro a1 n1 c1 w1 hg hO; have gB1 := (hg.block w2.heap.size (by simp; omega) (Hne.out _ hz3)).trans (box_old _ HgB2.out); obtain ⟨-, q1, q2⟩ := own_box (Below.refl _ w1) (size_of_box gB1) gB1; have q11 := q1 1; have q21 := q2 1; have Hg := Lib.hid hg; have HO := Lib.hid hO; clear hg hO q1 q2))
          refine ⟨⟨k + 1, m + 1, .slice a1 n1 c1, by go_num, Lib.hid (by have := hkm.out; omega), by omega, by have := hkm.out; omega, heap_setCell_at (o := 1) gB1 _, ?_, ?_, ?_⟩, by simp [intOf]; omega⟩
          · rw [Hts.out]
            exact HO.out.setCell famBlt (p := ⟨w2.heap.size, 1, none⟩) hz3 _
          · exact (((hbr.trans (hbi.mono (by omega))).alloc (by omega) _).grown Hg.out (by simp; omega) (fun b hb => by have := (Own.lt HO2.out b hb).1; omega)).setCell (p := ⟨w2.heap.size, 1, none⟩) (Nat.le_refl _) _
          · rw [size_setCell']; have := Hg.out.size; simp at this; omega
    · have hki : ¬ (m : Int) < (l.length : Int) := by omega
      have hall : (l.drop 2).take k = l.drop 2 := List.take_of_length_le (by have := hkm.out; rw [List.length_drop]; omega)
      rw [hall] at hov
      have hll : ((l.drop 2).map (fun f => (⟨q, f⟩ : Blt))).length ≤ 140737488355328 := by simp; omega
      have hrd := OwnX.rsl famBlt (by omega) hov hll
      have hrd' : ∀ W, Same (Span w3.heap.size wr.heap.size) wr W → RBlts Any W (.slice aov k cov) ((l.drop 2).map (fun f => (⟨q, f⟩ : Blt))) := fun W hW => RSl.mono (fun _ _ _ h => dBlt.mono (fun _ _ => trivial) h) (fun _ _ => trivial) (RBlts.same hW hrd)
      have hbt : RBtcs Any (wr.alloc (.cells #[.string s0, .slice aov k cov] 64)) (.slice (some ⟨wr.heap.size, 0, none⟩) 1 1) [(⟨s0, (l.drop 2).map (fun f => (⟨q, f⟩ : Blt))⟩ : Btc)] :=
        RSl.mono (fun _ _ _ h => h) (fun _ _ => trivial) (RSl.built (lo := 0) (cs := [.string s0, .slice aov k cov]) (w' := wr.alloc (.cells #[.string s0, .slice aov k cov] 64)) (Nat.zero_le _) (box_new _ _) rfl (⟨.slice aov k cov, rfl, (show s0.size ≤ 140737488355328 by omega), hrd' _ (.of_below (below_new _ _))⟩ : dBtc Any (wr.alloc (.cells #[.string s0, .slice aov k cov] 64)) [.string s0, .slice aov k cov] (⟨s0, (l.drop 2).map (fun f => (⟨q, f⟩ : Blt))⟩ : Btc)))
      have gW : wr.heap[w.heap.size]? = some (.cells #[.string ⟨#[]⟩, .slice none 0 0] 64 (0, 0)) := (hbr.block _ hB2).trans Hgx1.out
      have hbw : Below w.heap.size w wr := hbW.trans (hbr.mono (by omega))
      have Hrd := Lib.hid hrd'; have Hbt := Lib.hid hbt; have HgB := Lib.hid hgB; have Hov := Lib.hid hov; have HgW := Lib.hid gW
      clear hrd hrd' hbt hgB hov hall hnl gW
      by_cases hR : R = 0
      · subst hR
        go_wp2_with (go_at_call 40; refine (HChk.out _ _ Hbt.out).mono ?_; rintro e w5 ⟨rfl, hb5⟩; obtain ⟨gB5, q1, q2⟩ := own_box hb5 (by simp; omega) (box_old _ HgB.out); obtain ⟨gB6, q3, q4⟩ := own_box hb5 (by simp; omega) (box_old _ HgW.out); have hl5 := hb5.size)
        refine bodyPost_ret (v := .tuple #[.agg #[.string s0, .slice aov k cov], .int .i64 p, .int .u8 q, .int .i64 0]) (by simp [results, Try.results46, go_sem, q3]) rfl (HGood.out _ _ _ _ (by rw [HI.out]; simp) (Hrd.out _ ?_) ?_)
        · intro b hb hS
          have h1 := hS.1
          refine (Below.heap_setCell _ _ _ _ (by simp; omega)).trans ((Below.heap_setCell _ _ _ _ (by simp; omega)).trans ?_)
          exact (hb5.block b (by simp; omega)).trans ((below_new wr _).block b (by omega))
        · exact (((hbw.alloc (by omega) _).trans (hb5.mono (by simp; omega))).setCell (p := ⟨w.heap.size, 0, none⟩) (Nat.le_refl _) _).setCell (p := ⟨w.heap.size, 1, none⟩) (Nat.le_refl _) _
      · have hRb : (R != 0) = true := bne_iff_ne.2 hR
        go_wp2_with (go_at_call 40; refine (HChk.out _ _ Hbt.out).mono ?_; rintro e w5 ⟨rfl, hb5⟩; obtain ⟨gB5, q1, q2⟩ := own_box hb5 (by simp; omega) (box_old _ HgB.out); obtain ⟨gB6, q3, q4⟩ := own_box hb5 (by simp; omega) (box_old _ HgW.out); have hl5 := hb5.size)
        refine bodyPost_ret (v := .tuple #[.agg #[.string ⟨#[]⟩, .slice none 0 0], .int .i64 0, .int .u8 0, .int .i64 11]) (by simp [results, Try.results46, go_sem, q3]) rfl (HBad.out 11 _ (by rw [HI.out, if_neg hR]) (by omega) ?_)
        exact (((hbw.alloc (by omega) _).trans (hb5.mono (by simp; omega))).setCell (p := ⟨w.heap.size, 0, none⟩) (Nat.le_refl _) _).setCell (p := ⟨w.heap.size, 1, none⟩) (Nat.le_refl _) _
end Go.Proofs.Ytkjgddcjhikdgaa
