/- The contract of record.Read. -/
import Derived.Test.YtkjgddcjhikdgaaReadS
import Derived.Deep.RegionHeld3
import Derived.Test.YtkjgddcjhikdgaaPutR
namespace Go.Proofs.Ytkjgddcjhikdgaa
open Go Go.RowKit Go.Shelf

theorem marks_here {m base : Nat} {w w' : World} {mv ov : Value} {x : List Int} {ys : List Blt} (h : Own m 3 1 (dInt .i64) w' mv x) (hx : x.length ≤ 1000000) (ho : OwnX base 25 2 dBlt w ov ys) (hb : base ≤ m) (hm : w.heap.size ≤ m) :
    RInts (Rg base w' ov) w' mv x := by
  have hr := OwnX.rsl (famInt .i64) (by omega) (show OwnX m 3 1 (fun _ => dInt .i64) w' mv x from h) (by omega)
  refine RSl.mono (fun _ _ _ h => h) (fun b hb' => ⟨Nat.le_trans hb hb'.1, hb'.2, fun he => ?_⟩) hr
  have := (Own.lt ho b he.symm).2
  have := hb'.1; omega
theorem take_drop_succ {l : List (List Int)} {k : Nat} (h : k + 2 < l.length) : (l.drop 2).take (k + 1) = (l.drop 2).take k ++ [l[k + 2]] := by
  rw [List.take_succ_eq_append_getElem (by rw [List.length_drop]; omega), List.getElem_drop]
  congr 3
  omega
theorem wrap_u8 {x : Int} (h0 : 0 ≤ x) (h1 : x ≤ 255) : IntKind.i64.wrap x = x := by
  simp [IntKind.wrap, IntKind.bits, IntKind.signed]
  omega

set_option maxHeartbeats 8000000 in
set_option maxRecDepth 100000 in
theorem recordRead (S : Nat → Prop) (v : Value) (xs : List Int) (w : World) (h : RBytes S w v xs) (hl : xs.length ≤ 1000000) :
    Calls Try.prog 45 #[v] w (ReadGives xs w) := by
  have hW : Below w.heap.size w (w.alloc (.cells #[.string ⟨#[]⟩, .slice none 0 0] 64)) := below_new _ _
  have hSp := octSplit S v xs (w.alloc (.cells #[.string ⟨#[]⟩, .slice none 0 0] 64)) (h.same (.of_below hW)) hl
  have hbx := box_new w (.cells #[.string ⟨#[]⟩, .slice none 0 0] 64)
  have hlen := splitV_len xs
  have heach := splitV_each xs
  have hBad : ∀ i w', readI xs = i → i ≠ 0 → Below w.heap.size w w' → _ := fun i w' => ReadGives.bad (xs := xs) (w := w) (w' := w') (i := i)
  have hGood : ∀ w' a n c, readI xs = 0 → RBlts Any w' (.slice a n c) (btcOf (splitV xs)).blts → Below w.heap.size w w' → _ := fun w' a n c => ReadGives.good (xs := xs) (w := w) (w' := w') (a := a) (n := n) (c := c) (l := splitV xs) rfl
  obtain ⟨E, hE⟩ : ∃ E, splitE xs = E := ⟨_, rfl⟩
  obtain ⟨l, hL⟩ : ∃ l, splitV xs = l := ⟨_, rfl⟩
  have hI : readI xs = if E ≠ 0 then E else if fieldsOk l then (if recCheck [btcOf l] (candsOf l) (kindOf l) = 0 then 0 else 11) else 11 := by rw [readI, hE, hL]
  unfold SplitGives at hSp
  rw [hE, hL] at hSp
  rw [hL] at hlen heach hGood
  obtain ⟨a, cap, rfl, h1, h2⟩ := RSl.shape h
  clear hE hL
  by_cases hE : E = 0
  case neg =>
    rw [if_pos hE] at hI
    have hB := fun w' => hBad _ w' hI hE
    have HSp := Lib.hid hSp; have HB := Lib.hid hB; have Hbx := Lib.hid hbx
    clear hSp hB hBad hGood hI heach h hbx hlen hW
    go_enter Try.func45, Try.ntmps45
    go_wp2_with (go_at_call 88; refine HSp.out.mono ?_; rintro e w2 ⟨v2, rfl, ho2, hb2⟩; obtain ⟨a2, c2, rfl⟩ := ho2.shape; obtain ⟨gx1, hcx1, hfx1⟩ := own_box hb2 (by simp) Hbx.out)
    exact bodyPost_ret (v := .tuple #[.agg #[.string ⟨#[]⟩, .slice none 0 0], .int .i64 0, .int .u8 0, .int .i64 E]) (by simp [results, Try.results45, go_sem, hcx1]) rfl (HB.out _ ((((below_new w _).trans (hb2.mono (by simp))).setCell (p := ⟨w.heap.size, 0, none⟩) (Nat.le_refl _) _).setCell (p := ⟨w.heap.size, 1, none⟩) (Nat.le_refl _) _))
  subst hE
  rw [if_neg (by simp)] at hI
  by_cases hln : l.length < 2
  · have hB := fun w' => hBad 11 w' (by rw [hI, fieldsOk, if_neg]; simp; omega) (by omega)
    have HSp := Lib.hid hSp; have HB := Lib.hid hB; have Hbx := Lib.hid hbx
    clear hSp hB hBad hGood hI heach h hbx hlen hW
    have hlni : (l.length : Int) < 2 := by omega
    go_enter Try.func45, Try.ntmps45
    go_wp2_with (go_at_call 88; refine HSp.out.mono ?_; rintro e w2 ⟨v2, rfl, ho2, hb2⟩; obtain ⟨a2, c2, rfl⟩ := ho2.shape; obtain ⟨gx1, hcx1, hfx1⟩ := own_box hb2 (by simp) Hbx.out)
    exact bodyPost_ret (v := .tuple #[.agg #[.string ⟨#[]⟩, .slice none 0 0], .int .i64 0, .int .u8 0, .int .i64 11]) (by simp [results, Try.results45, go_sem, hcx1]) rfl (HB.out _ ((((below_new w _).trans (hb2.mono (by simp))).setCell (p := ⟨w.heap.size, 0, none⟩) (Nat.le_refl _) _).setCell (p := ⟨w.heap.size, 1, none⟩) (Nat.le_refl _) _))
  have hlni : ¬ (l.length : Int) < 2 := by omega
  have hk1 : 1 < l.length := by omega
  have hfld : ∀ w2 v2, OwnX (w.alloc (.cells #[.string ⟨#[]⟩, .slice none 0 0] 64)).heap.size 61 1 dField w2 v2 l → RSl (Span (w.heap.size + 1) w2.heap.size) 1 (dField (Span (w.heap.size + 1) w2.heap.size)) w2 v2 l := fun w2 v2 ho => by
    have := OwnX.rsl famField (by omega) ho (by omega)
    rwa [World.size_alloc] at this
  by_cases hf1 : l[1].length = 2
  case neg =>
    have hB := fun w' => hBad 11 w' (by rw [hI, fieldsOk, if_neg]; rw [List.getD, List.getElem?_eq_getElem hk1]; simp; omega) (by omega)
    have HSp := Lib.hid hSp; have HB := Lib.hid hB; have Hbx := Lib.hid hbx; have Hfld := Lib.hid hfld
    clear hSp hB hBad hGood hI heach h hbx hlen hW hfld
    have hf1i : ((l[1].length : Int) != 2) = true := bne_iff_ne.2 (by omega)
    go_enter Try.func45, Try.ntmps45
    go_wp2_with (go_at_call 88; refine HSp.out.mono ?_; rintro e w2 ⟨v2, rfl, ho2, hb2⟩; obtain ⟨a2, c2, rfl⟩ := ho2.shape; obtain ⟨gx1, hcx1, hfx1⟩ := own_box hb2 (by simp) Hbx.out; obtain ⟨b2, off2, a3, c3, rfl, -, -, hc3, -⟩ := RSl.field (Hfld.out _ _ ho2) hk1)
    exact bodyPost_ret (v := .tuple #[.agg #[.string ⟨#[]⟩, .slice none 0 0], .int .i64 0, .int .u8 0, .int .i64 11]) (by simp [results, Try.results45, go_sem, hcx1]) rfl (HB.out _ ((((below_new w _).trans (hb2.mono (by simp))).setCell (p := ⟨w.heap.size, 0, none⟩) (Nat.le_refl _) _).setCell (p := ⟨w.heap.size, 1, none⟩) (Nat.le_refl _) _))
  obtain ⟨p, q, hpq⟩ : ∃ p q, l[1] = [p, q] := by
    match hh : l[1], hf1 with
    | [p, q], _ => exact ⟨p, q, rfl⟩
  have hgd : l.getD 1 [] = [p, q] := by rw [List.getD, List.getElem?_eq_getElem hk1, hpq]; rfl
  have hcands : candsOf l = p := by rw [candsOf, hgd]; rfl
  have hkind : kindOf l = q := by rw [kindOf, hgd]; rfl
  have hname : (btcOf l).name = strOfNums l[0] := by rw [btcOf, List.getD, List.getElem?_eq_getElem (by omega)]; rfl
  have hblts : (btcOf l).blts = (l.drop 2).map (fun f => (⟨q, f⟩ : Blt)) := by rw [btcOf, hkind]
  have hfok : fieldsOk l = true := by rw [fieldsOk, hgd]; simp; omega
  rw [hfok, if_pos rfl, hcands, hkind] at hI
  rw [hcands, hkind, hname, hblts] at hGood
  have hbtc : btcOf l = ⟨strOfNums l[0], (l.drop 2).map (fun f => (⟨q, f⟩ : Blt))⟩ := by
    have : btcOf l = ⟨(btcOf l).name, (btcOf l).blts⟩ := rfl
    rw [this, hname, hblts]
  rw [hbtc] at hI
  obtain ⟨s0, hs0⟩ : ∃ s0, strOfNums l[0] = s0 := ⟨_, rfl⟩
  have hs0l : s0.size ≤ 16384 := by rw [← hs0, strOfNums_size]; exact heach _ (List.getElem_mem _)
  have hFa : ∀ w2 a2 c2, OwnX (w.alloc (.cells #[.string ⟨#[]⟩, .slice none 0 0] 64)).heap.size 61 1 dField w2 (.slice a2 l.length c2) l →
      ∃ b2 off2 a0 c0 b4 off4 c4, a2 = some ⟨b2, off2, none⟩ ∧ l.length ≤ c2 ∧ w.heap.size < b2 ∧ w.heap.size < b4 ∧ w2.cell? ⟨b2, off2, none⟩ = some (.slice a0 l[0].length c0) ∧ w2.cell? ⟨b2, off2 + 1, none⟩ = some (.slice (some ⟨b4, off4, none⟩) 2 c4) ∧
        w2.cell? ⟨b4, off4, none⟩ = some (.int .u8 p) ∧ w2.cell? ⟨b4, off4 + 1, none⟩ = some (.int .u8 q) ∧ (∀ W, Same (From (w.heap.size + 1)) w2 W → (convert 61 9 (.slice a0 l[0].length c0)).run Try.prog W = .ok (.string s0) W) ∧ (0 ≤ p ∧ p ≤ 255) ∧ (0 ≤ q ∧ q ≤ 255) := by
    intro w2 a2 c2 ho
    have hr := hfld _ _ ho
    obtain ⟨b2, off2, a0, c0, rfl, hS2, -, hc0, hr0⟩ := RSl.field hr (k := 0) (by omega)
    obtain ⟨b3, off3, a1, c1, e, -, -, hc1, hr1⟩ := RSl.field hr hk1
    simp only [Option.some.injEq, Addr.mk.injEq, and_true] at e
    obtain ⟨rfl, rfl⟩ := e
    have hr1' : RBytes (Span (w.heap.size + 1) w2.heap.size) w2 (.slice a1 2 c1) [p, q] := by rw [hpq] at hr1; exact hr1
    obtain ⟨b4, off4, rfl, hb4, hd0, hp0, hp1⟩ := RBytes.byte hr1' (k := 0) (by simp)
    obtain ⟨b5, off5, e, -, hd1, hq0, hq1⟩ := RBytes.byte hr1' (k := 1) (by simp)
    simp only [Option.some.injEq, Addr.mk.injEq, and_true] at e
    obtain ⟨rfl, rfl⟩ := e
    have hr4 := RSl.get1 hr1' 0 (by simp)
    obtain ⟨b6, off6, cap6, c6, e6, hS6, -, -⟩ := hr4
    simp only [Value.slice.injEq, Option.some.injEq, Addr.mk.injEq, and_true] at e6
    obtain ⟨⟨rfl, rfl⟩, -, rfl⟩ := e6
    obtain ⟨a7, cp, e7, hcl, -⟩ := RSl.shape hr
    simp only [Value.slice.injEq] at e7
    obtain ⟨-, -, rfl⟩ := e7
    have hcv := fun W (hW : Same (From (w.heap.size + 1)) w2 W) => RBytes.str (hr0.same (hW.mono fun b hb => hb.1))
    rw [hs0] at hcv
    rw [hpq] at hc1
    exact ⟨b2, off2, a0, c0, b4, off4, c1, rfl, hcl, by have := hS2.1; omega, by have := hS6.1; omega, hc0, hc1, hd0, hd1, hcv, ⟨hp0, hp1⟩, ⟨hq0, hq1⟩⟩
  rw [hs0] at hGood hI
  obtain ⟨R, hR⟩ : ∃ R, recCheck [(⟨s0, (l.drop 2).map (fun f => (⟨q, f⟩ : Blt))⟩ : Btc)] p q = R := ⟨_, rfl⟩
  have hChk := fun W v (hv : RBtcs Any W v [(⟨s0, (l.drop 2).map (fun f => (⟨q, f⟩ : Blt))⟩ : Btc)]) => recordCheck Any v _ p q W hv
  rw [hR] at hI hChk
  have HChk := Lib.hid hChk
  clear hChk hR
  have HSp := Lib.hid hSp; have HBad := Lib.hid hBad; have HGood := Lib.hid hGood; have Hbx := Lib.hid hbx; have Hfld := Lib.hid hfld; have HFa := Lib.hid hFa; have HI := Lib.hid hI; have Heach := Lib.hid heach
  clear hSp hBad hGood hI heach h hbx hW hfld hFa hcands hkind hname hblts hfok hbtc hgd hf1 hpq hs0
  go_enter Try.func45, Try.ntmps45
  go_wp2_with (go_at_call 88; refine HSp.out.mono ?_; rintro e w2 ⟨v2, rfl, ho2, hb2⟩; obtain ⟨a2, c2, rfl⟩ := ho2.shape; obtain ⟨gx1, hcx1, hfx1⟩ := own_box hb2 (by simp) Hbx.out; obtain ⟨b2, off2, a0, c0, b4, off4, c4, rfl, hcl, hlt2, hlt4, k0, k1, k2, k3, k4, ⟨hp0, hp1⟩, ⟨hq0, hq1⟩⟩ := HFa.out _ _ _ ho2)
  have hk0i : l ≠ [] := fun e => by rw [e] at hk1; simp at hk1
  have hk0a : (0 : Int) < (l.length : Int) := by omega
  have hk0b : 0 < l.length := by omega
  have hk0c : (l.length : Int) ≠ 0 := by omega
  have hk0d : ¬ (l.length : Int) ≤ 0 := by omega
  have hcv0 := k4 w2 (Same.refl _ _)
  have hSm : Same (From (w.heap.size + 1)) w2 (w2.setCell ⟨w.heap.size, 0, none⟩ (.string s0)).drew := fun b _ hb => Below.heap_setCell w2 ⟨w.heap.size, 0, none⟩ (.string s0) b (fun e => by have : w.heap.size + 1 ≤ b := hb; simp at e; omega)
  have hcv1 := k4 _ hSm
  have hcvd := k4 w2.drew (.of_below (Below.drew (Below.refl _ _)))
  have hne2 : b2 ≠ w.heap.size := by omega
  have hne4 : b4 ≠ w.heap.size := by omega
  have hKp : (w2.setCell ⟨w.heap.size, 0, none⟩ (.string s0)).drew.cell? ⟨b2, off2, none⟩ = some (.slice a0 l[0].length c0) ∧ (w2.setCell ⟨w.heap.size, 0, none⟩ (.string s0)).drew.cell? ⟨b2, off2 + 1, none⟩ = some (.slice (some ⟨b4, off4, none⟩) 2 c4) ∧ (w2.setCell ⟨w.heap.size, 0, none⟩ (.string s0)).drew.cell? ⟨b4, off4, none⟩ = some (.int .u8 p) ∧ (w2.setCell ⟨w.heap.size, 0, none⟩ (.string s0)).drew.cell? ⟨b4, off4 + 1, none⟩ = some (.int .u8 q) ∧ (convert 61 9 (.slice a0 l[0].length c0)).run Try.prog (w2.setCell ⟨w.heap.size, 0, none⟩ (.string s0)).drew = .ok (.string s0) (w2.setCell ⟨w.heap.size, 0, none⟩ (.string s0)).drew :=
    ⟨(World.cell?_setCell_other w2 _ _ _ (by intro hh; injection hh; omega)).trans k0, (World.cell?_setCell_other w2 _ _ _ (by intro hh; injection hh; omega)).trans k1, (World.cell?_setCell_other w2 _ _ _ (by intro hh; injection hh; omega)).trans k2, (World.cell?_setCell_other w2 _ _ _ (by intro hh; injection hh; omega)).trans k3, hcv1⟩
  have HKp := Lib.hid hKp
  clear hKp hcv1 hSm
  have K4 := Lib.hid k4
  clear k4
  go_region_held3 (fun w' => w'.cell? ⟨b2, off2, none⟩ = some (.slice a0 l[0].length c0) ∧ w'.cell? ⟨b2, off2 + 1, none⟩ = some (.slice (some ⟨b4, off4, none⟩) 2 c4) ∧ w'.cell? ⟨b4, off4, none⟩ = some (.int .u8 p) ∧ w'.cell? ⟨b4, off4 + 1, none⟩ = some (.int .u8 q) ∧ (convert 61 9 (.slice a0 l[0].length c0)).run Try.prog w' = .ok (.string s0) w') (first | exact HKp.out | (go_split_ands; exact HKp.out) | go_keep) (fail)
  obtain ⟨w3, hw3⟩ : ∃ w3, w3 = (w2.setCell ⟨w.heap.size, 0, none⟩ (.string s0)).drew := ⟨_, rfl⟩
  have gx3 : w3.heap[w.heap.size]? = some (.cells #[.string s0, .slice none 0 0] 64 (0, 0)) := by rw [hw3]; exact heap_setCell_at (o := 0) gx1 (.string s0)
  have hS3 : Same (From (w.heap.size + 1)) w2 w3 := by
    rw [hw3]
    exact fun b _ hb => Below.heap_setCell w2 ⟨w.heap.size, 0, none⟩ (.string s0) b (fun e => by have : w.heap.size + 1 ≤ b := hb; simp at e; omega)
  have hb3 : Below w.heap.size w w3 := by rw [hw3]; exact Below.drew (((below_new w _).trans (hb2.mono (by simp))).setCell (p := ⟨w.heap.size, 0, none⟩) (Nat.le_refl _) _)
  have hz3 : w3.heap.size = w2.heap.size := by rw [hw3]; exact size_setCell' _ _ _
  have hlt3 : w.heap.size < w3.heap.size := size_of_box gx3
  have hFd : ∀ W, Same (From (w.heap.size + 1)) w3 W → ∀ k (hk : k + 2 < l.length), ∃ a' c', W.cell? ⟨b2, off2 + 2 + k, none⟩ = some (.slice a' l[k + 2].length c') ∧ RBytes (From (w.heap.size + 1)) W (.slice a' l[k + 2].length c') l[k + 2] := by
    intro W hW k hk
    have hSW : Same (From (w.heap.size + 1)) w2 W := hS3.trans hW (by omega)
    have hr := RSl.same (dField.stable (From (w.heap.size + 1))) hSW (RSl.mono (S := Span (w.heap.size + 1) w2.heap.size) (fun _ _ _ h => dField.mono (fun b hb => hb.1) h) (fun b hb => hb.1) (Hfld.out _ _ ho2))
    obtain ⟨b', off', a', c', e, -, -, hc, hr'⟩ := RSl.field hr hk
    simp only [Option.some.injEq, Addr.mk.injEq, and_true] at e
    obtain ⟨rfl, rfl⟩ := e
    exact ⟨a', c', by rwa [show off2 + 2 + k = off2 + (k + 2) by omega], hr'⟩
  have HFd := Lib.hid hFd; have Hz3 := Lib.hid hz3; have HS3 := Lib.hid hS3
  rw [← hw3]
  clear hFd hz3 hS3 hw3 k0 k1 k2 k3 hcv0 hcvd HKp gx1 hcx1 hfx1 ho2 K4
  have hwp := wrap_u8 hp0 hp1
  go_wp2
  all_goals
    go_loopw [51] (fun i wr => ∃ (k : Nat) (ov : Value), i = .int .i64 k ∧ k + 2 ≤ l.length ∧ wr.heap[w.heap.size]? = some (.cells #[.string s0, ov] 64 (0, 0)) ∧ OwnX w3.heap.size 25 2 dBlt wr ov (((l.drop 2).take k).map (fun f => (⟨q, f⟩ : Blt))) ∧ Same (From (w.heap.size + 1)) w3 wr ∧ Below w.heap.size w wr ∧ w3.heap.size ≤ wr.heap.size) (fun i _ => l.length - 2 - (intOf i).toNat)
    case atStart => exact ⟨0, _, rfl, by omega, gx3, by simpa using OwnX.nil _ _ _ _ _, Same.refl _ _, hb3, Nat.le_refl _⟩
    case round =>
      obtain ⟨k, ov, rfl, hk2, hgB, hov, hSr, hbr, hzr⟩ := hrel
      have hnl : (((l.drop 2).take k).map (fun f => (⟨q, f⟩ : Blt))).length = k := by simp; omega
      obtain ⟨aov, cov, hsh⟩ := hov.shape
      rw [hnl] at hsh
      subst hsh
      obtain ⟨-, hcB, hfB⟩ := own_box (Below.refl _ wr) (size_of_box hgB) hgB
      have hcB0 : wr.cell? ⟨w.heap.size, 0, none⟩ = some (.string s0) := hcB 0
      have hcB1 : wr.cell? ⟨w.heap.size, 1, none⟩ = some (.slice aov k cov) := hcB 1
      have hfB1 := hfB 1
      clear hcB hfB
      by_cases hlt : k + 2 < l.length
      · first
        | (exfalso; omega; done)
        | (obtain ⟨a', c', hcf, hrf⟩ := HFd.out wr hSr k hlt
           have hfl : l[k + 2].length ≤ 16384 := Heach.out _ (List.getElem_mem _)
           have hki : k < l.length - 2 := by omega
           have Hnl := Lib.hid hnl; have Hov := Lib.hid hov; have HgB := Lib.hid hgB; have HSr := Lib.hid hSr; have Hhrf := Lib.hid hrf
           clear hnl hov hgB hSr hrf
           go_wp2
           obtain ⟨wo, rfl⟩ : ∃ wo, wo = wr := ⟨_, rfl⟩
           have hBo : w.heap.size < wo.heap.size := by omega
           go_loopw [59] (fun i wr => ∃ (j : Nat) (mv : Value), i = .int .i64 j ∧ j ≤ l[k + 2].length ∧ wr.heap[wo.heap.size]? = some (.cells #[.int .u8 q, mv] 25 (0, 0)) ∧ Own (wo.heap.size + 1) 3 1 (dInt .i64) wr mv (l[k + 2].take j) ∧ Below wo.heap.size wo wr ∧ wo.heap.size + 1 ≤ wr.heap.size) (fun i _ => l[k + 2].length - (intOf i).toNat)
           case atStart => exact ⟨0, _, rfl, Nat.zero_le _, box_new _ _, Own.nil _ _ _ _ _, below_new _ _, by simp⟩
           case round =>
             obtain ⟨j, mv, rfl, hj, hgM, hmv, hbi, hzi⟩ := hrel
             have hml : (l[k + 2].take j).length = j := by simp; omega
             obtain ⟨am, cm, hsm⟩ := Own.shape hmv
             rw [hml] at hsm
             subst hsm
             obtain ⟨-, hcM, hfM⟩ := own_box (Below.refl _ wr) (size_of_box hgM) hgM
             have hcM0 : wr.cell? ⟨wo.heap.size, 0, none⟩ = some (.int .u8 q) := hcM 0
             have hcM1 : wr.cell? ⟨wo.heap.size, 1, none⟩ = some (.slice am j cm) := hcM 1
             have hfM1 := hfM 1
             clear hcM hfM
             by_cases hjl : j < l[k + 2].length
             · obtain ⟨bf, offf, rfl, -, hcb, hb0, hb255⟩ := RBytes.byte (RBytes.same (.of_below hbi) Hhrf.out) hjl
               have hwb := wrap_u8 hb0 hb255
               have hnw : Below wr.heap.size wr (wr.alloc (.cells #[.int .i64 l[k + 2][j]] 3)) := below_new _ _
               have hOw := Own.below (S := fun _ => False) (dInt.stable _ _) hmv hnw
               have hlo := fun b hbk => (Own.lt hmv b hbk).1
               have hu : RSl (From 0) 1 (dInt .i64) (wr.alloc (.cells #[.int .i64 l[k + 2][j]] 3)) (.slice (some ⟨wr.heap.size, 0, none⟩) 1 1) [l[k + 2][j]] := RSl.built (Nat.zero_le _) (box_new _ _) rfl ⟨rfl, kind_wf hb0 hb255⟩
               have hts : l[k + 2].take (j + 1) = l[k + 2].take j ++ [l[k + 2][j]] := List.take_succ_eq_append_getElem hjl
               have Hml := Lib.hid hml; have HOw := Lib.hid hOw; have Hlo := Lib.hid hlo; have Hu := Lib.hid hu; have Hts := Lib.hid hts; have HgM := Lib.hid hgM; have Hnw := Lib.hid hnw
               clear hml hOw hlo hu hts hgM hmv hnw
               go_wp2_with (at_builtin; go_must (refine wpList_appV _ Try.infoInt rfl rfl Try.underlying23 ⟨rfl, by omega, by omega⟩ (dInt.one _) (dInt.stable (fun _ => False) _) (wo.heap.size + 1) HOw.out rfl Hu.out rfl (by rw [Hml.out]; simp; omega) (by simp; omega) ?_); intro a1 n1 c1 w1 hg hat ho1; have ho2 := ho1 (fun _ _ h => h.elim); have hne1 : some wo.heap.size ≠ (Value.slice am j cm).ownBlock := fun e => (by have := Hlo.out _ e.symm; omega); have gM := (hg.block wo.heap.size (by simp; omega) hne1).trans (box_old _ HgM.out); obtain ⟨-, q1, q2⟩ := own_box (Below.refl _ w1) (size_of_box gM) gM; have Ho2 := Lib.hid ho2; have Hg := Lib.hid hg; have Hat := Lib.hid hat; clear ho1 ho2 hg hat)
               have hn1 : n1 = j + 1 := by
                 have h3 := Ho2.out
                 obtain ⟨a9, c9, e9⟩ := Own.shape h3
                 simp only [Value.slice.injEq] at e9
                 rw [e9.2.1, List.length_append, Hml.out]
                 rfl
               refine ⟨⟨j + 1, .slice a1 n1 c1, by go_num, by omega, heap_setCell_at (o := 1) gM _, ?_, ?_, ?_⟩, by simp [intOf]; omega⟩
               · rw [Hts.out]
                 exact Own.setCell (dInt.stable (fun _ => False) _) Ho2.out (p := ⟨wo.heap.size, 1, none⟩) (by simp) (fun h => h) _
               · exact ((hbi.trans (Hnw.out.mono (by omega))).grown Hg.out (by simp; omega) (fun b hb => by have := Hlo.out b hb; omega)).setCell (p := ⟨wo.heap.size, 1, none⟩) (Nat.le_refl _) _
               · rw [size_setCell']; have := Hg.out.size; simp at this; omega
             · have hje : j = l[k + 2].length := by omega
               rw [List.take_of_length_le (by omega)] at hmv
               have gB := keep_box (hbi.mono (Nat.le_refl _)) HgB.out
               obtain ⟨-, hcB, hfB⟩ := own_box (Below.refl _ wr) (size_of_box gB) gB
               have kB1 : wr.cell? ⟨w.heap.size, 1, none⟩ = some (.slice aov k cov) := hcB 1
               have kfB1 := hfB 1
               have hovr := Hov.out.below famBlt hbi
               have hso := hbi.size
               have hmk := marks_here hmv (by omega) Hov.out (base := w3.heap.size) (by omega) (by omega)
               have hD : dBlt (Rg w3.heap.size (wr.alloc (.cells #[.int .u8 q, .slice am j cm] 25)) (.slice aov k cov)) (wr.alloc (.cells #[.int .u8 q, .slice am j cm] 25)) [.int .u8 q, .slice am j cm] ⟨q, l[k + 2]⟩ :=
                 ⟨_, rfl, hq0, hq1, RInts.mono (fun b (hb : Rg w3.heap.size wr (.slice aov k cov) b) => ⟨hb.1, by have := hb.2.1; rw [World.size_alloc]; omega, hb.2.2⟩) (RInts.same (.of_below (below_new _ _)) hmk)⟩
               have hO2 := hovr.below famBlt (below_new wr (.cells #[.int .u8 q, .slice am j cm] 25))
               have hts : ((l.drop 2).take (k + 1)).map (fun f => (⟨q, f⟩ : Blt)) = ((l.drop 2).take k).map (fun f => (⟨q, f⟩ : Blt)) ++ [⟨q, l[k + 2]⟩] := by rw [take_drop_succ hlt, List.map_append]; rfl
               have hne : ∀ b, b < w3.heap.size → some b ≠ (Value.slice aov k cov).ownBlock := fun b hb e => by have := (Own.lt hO2 b e.symm).1; omega
               have HD := Lib.hid hD; have HO2 := Lib.hid hO2; have Hts := Lib.hid hts; have HgB2 := Lib.hid gB; have Hne := Lib.hid hne
               clear hcB hfB hovr hmk hD hO2 hts gB hmv hje hgM hne
               go_wp2_with (at_builtin; go_must (refine wpList_appX _ Try.infoBlt rfl rfl Try.underlying62 ⟨rfl, by omega, by omega⟩ famBlt w3.heap.size HO2.out rfl (g := wr.heap.size) (cs := [.int .u8 q, .slice am j cm]) (y := ⟨q, l[k + 2]⟩) (box_new _ _) rfl HD.out rfl (by rw [Hnl.out]; omega) (by simp; omega) ?_); go_must (intro a1 n1 c1 w1 hg hO; have gB1 := (hg.block w.heap.size (by simp; omega) (Hne.out _ hlt3)).trans (box_old _ HgB2.out); obtain ⟨-, q1, q2⟩ := own_box (Below.refl _ w1) (size_of_box gB1) gB1; have q11 := q1 1; have q21 := q2 1; have Hg := Lib.hid hg; have HO := Lib.hid hO; clear hg hO q1 q2))
               refine ⟨⟨k + 1, .slice a1 n1 c1, by go_num, by omega, heap_setCell_at (o := 1) gB1 _, ?_, ?_, ?_, ?_⟩, by simp [intOf]; omega⟩
               · rw [Hts.out]
                 exact HO.out.setCell famBlt (p := ⟨w.heap.size, 1, none⟩) hlt3 _
               · intro b hb hS
                 have hS' : w.heap.size + 1 ≤ b := hS
                 refine (Below.heap_setCell _ _ _ _ (by simp; omega)).trans ((Hg.out.block b (by simp; omega) (Hne.out b hb)).trans ?_)
                 exact ((below_new wr _).block b (by omega)).trans ((hbi.block b (by omega)).trans (HSr.out b hb hS))
               · exact (((hbr.trans (hbi.mono (by omega))).alloc (by omega) _).grown Hg.out (by simp; omega) (fun b hb => by have := (Own.lt HO2.out b hb).1; omega)).setCell (p := ⟨w.heap.size, 1, none⟩) (Nat.le_refl _) _
               · rw [size_setCell']; have := Hg.out.size; simp at this; omega)
      · have hke : k = l.length - 2 := by omega
        have hki : ¬ k < l.length - 2 := by omega
        have hall : (l.drop 2).take k = l.drop 2 := List.take_of_length_le (by rw [List.length_drop]; omega)
        rw [hall] at hov
        have hll : ((l.drop 2).map (fun f => (⟨q, f⟩ : Blt))).length ≤ 140737488355328 := by simp; omega
        have hrd := OwnX.rsl famBlt (by omega) hov hll
        have hrd' : ∀ W, Same (Span w3.heap.size wr.heap.size) wr W → RBlts Any W (.slice aov k cov) ((l.drop 2).map (fun f => (⟨q, f⟩ : Blt))) := fun W hW => RSl.mono (fun _ _ _ h => dBlt.mono (fun _ _ => trivial) h) (fun _ _ => trivial) (RBlts.same hW hrd)
        have hbt : RBtcs Any (wr.alloc (.cells #[.string s0, .slice aov k cov] 64)) (.slice (some ⟨wr.heap.size, 0, none⟩) 1 1) [(⟨s0, (l.drop 2).map (fun f => (⟨q, f⟩ : Blt))⟩ : Btc)] :=
          RSl.mono (fun _ _ _ h => h) (fun _ _ => trivial) (RSl.built (lo := 0) (cs := [.string s0, .slice aov k cov]) (w' := wr.alloc (.cells #[.string s0, .slice aov k cov] 64)) (Nat.zero_le _) (box_new _ _) rfl (⟨.slice aov k cov, rfl, (show s0.size ≤ 140737488355328 by omega), hrd' _ (.of_below (below_new _ _))⟩ : dBtc Any (wr.alloc (.cells #[.string s0, .slice aov k cov] 64)) [.string s0, .slice aov k cov] (⟨s0, (l.drop 2).map (fun f => (⟨q, f⟩ : Blt))⟩ : Btc)))
        have Hrd := Lib.hid hrd'; have Hbt := Lib.hid hbt; have HgB := Lib.hid hgB; have Hov := Lib.hid hov
        clear hrd hrd' hbt hgB hov hall hnl hke
        by_cases hR : R = 0
        · subst hR
          go_wp2_with (go_at_call 39; refine (HChk.out _ _ Hbt.out).mono ?_; rintro e w5 ⟨rfl, hb5⟩; obtain ⟨gB5, q1, q2⟩ := own_box hb5 (by simp; omega) (box_old _ HgB.out); have hl5 := hb5.size)
          refine bodyPost_ret (v := .tuple #[.agg #[.string s0, .slice aov k cov], .int .i64 p, .int .u8 q, .int .i64 0]) (by simp [results, Try.results45, go_sem, q1]) rfl (HGood.out _ _ _ _ (by rw [HI.out]; simp) (Hrd.out _ ?_) ?_)
          · intro b hb hS
            have h1 := hS.1
            refine (Below.heap_setCell _ _ _ _ (by simp; omega)).trans ((Below.heap_setCell _ _ _ _ (by simp; omega)).trans ?_)
            exact (hb5.block b (by simp; omega)).trans ((below_new wr _).block b (by omega))
          · exact (((hbr.alloc (by omega) _).trans (hb5.mono (by simp; omega))).setCell (p := ⟨w.heap.size, 0, none⟩) (Nat.le_refl _) _).setCell (p := ⟨w.heap.size, 1, none⟩) (Nat.le_refl _) _
        · have hRb : (R != 0) = true := bne_iff_ne.2 hR
          go_wp2_with (go_at_call 39; refine (HChk.out _ _ Hbt.out).mono ?_; rintro e w5 ⟨rfl, hb5⟩; obtain ⟨gB5, q1, q2⟩ := own_box hb5 (by simp; omega) (box_old _ HgB.out); have hl5 := hb5.size)
          refine bodyPost_ret (v := .tuple #[.agg #[.string ⟨#[]⟩, .slice none 0 0], .int .i64 0, .int .u8 0, .int .i64 11]) (by simp [results, Try.results45, go_sem, q1]) rfl (HBad.out 11 _ (by rw [HI.out, if_neg hR]) (by omega) ?_)
          exact (((hbr.alloc (by omega) _).trans (hb5.mono (by simp; omega))).setCell (p := ⟨w.heap.size, 0, none⟩) (Nat.le_refl _) _).setCell (p := ⟨w.heap.size, 1, none⟩) (Nat.le_refl _) _
end Go.Proofs.Ytkjgddcjhikdgaa
