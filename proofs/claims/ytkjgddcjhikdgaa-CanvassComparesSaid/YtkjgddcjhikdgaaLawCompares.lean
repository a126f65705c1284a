/- What the law CanvassCompares answers. -/
import Derived.Test.YtkjgddcjhikdgaaLawTells
import Derived.Test.YtkjgddcjhikdgaaRep2
import Derived.Deep.CutBlock
namespace Go.Proofs.Ytkjgddcjhikdgaa
open Go Go.RowKit Go.Shelf

def CmpOpen (PL : List Place) (I : Int) (w : World) (e : Ending) (w' : World) : Prop :=
  ∃ v, e = .returned (.tuple #[v, .int .i64 I]) ∧ Own w.heap.size 111 2 dPlace w' v PL ∧ Below w.heap.size w w'
theorem CmpOpen.of {a b : List Btc} {c kind : Int} {PL : List Place} {I : Int} {w w' : World} {e : Ending} (hI : fitI a b c kind = I) (hP : (if fitI a b c kind = 0 then placesL a b else []) = PL) (h : CmpGives a b c kind w e w') : CmpOpen PL I w e w' := by
  subst hI; subst hP; exact h
def RepOpen (RL : List Btc) (J : Int) (w : World) (e : Ending) (w' : World) : Prop :=
  ∃ v, e = .returned (.tuple #[v, .int .i64 J]) ∧ WBtcs (From w.heap.size) w' v RL ∧ Below w.heap.size w w'
theorem RepOpen.of {a b : List Btc} {c kind : Int} {is : List Int} {RL : List Btc} {J : Int} {w w' : World} {e : Ending} (hJ : repI a b c kind is = J) (hR : repV a b c kind is = RL) (h : RepGives a b c kind is w e w') : RepOpen RL J w e w' := by
  subst hJ; subst hR; exact h
theorem samePlacesT (S T : Nat → Prop) (u v : Value) (xs : List Place) (w : World) (hx : RSl S 2 dPlace w u xs) (hy : RSl T 2 dPlace w v xs) :
    Calls Try.prog 51 #[u, v] w fun e w' => e = .returned (.bool true) ∧ Below w.heap.size w w' := by
  have := samePlaces S T u v xs xs w hx hy
  rwa [eqL_refl eqPlace_refl] at this
set_option maxHeartbeats 1000000 in
theorem compares_great (S : Nat → Prop) (u v z : Value) (a b : List Btc) (is : List Int) (c kind : Int) (w : World) (h : RBtcs S w u a) (hv : RBtcs S w v b) (hz : RInts S w z is) (hg : (great a || great b || decide (100 < is.length)) = true) :
    Calls Try.prog 7 #[u, v, .int .i64 c, .int .u8 kind, z] w fun e w' => e = .returned (.bool true) ∧ Below w.heap.size w w' := by
  have hG := great26 S u a w h
  have hG2 := fun W hW => great26 S v b W (hv.same (.of_below (hW : Below w.heap.size w W)))
  obtain ⟨a1, cap1, rfl, -, -⟩ := RSl.shape h
  obtain ⟨a2, cap2, rfl, -, -⟩ := RSl.shape hv
  obtain ⟨a3, cap3, rfl, -, hz2⟩ := RSl.shape hz
  cases hg1 : great a
  · rw [hg1] at hG hg
    cases hg2 : great b
    · rw [hg2] at hG2 hg
      have hl : (is.length : Int) > 100 := by simp at hg; omega
      have HG := Lib.hid hG
      have HG2 := Lib.hid hG2
      clear hG hG2 hg hg1 hg2 h hv hz
      go_enter Try.func7, Try.ntmps7
      go_wp2_with (first | ((with_reducible refine HG.out.mono ?_); rintro e w1 ⟨rfl, hb1⟩) | ((with_reducible refine (HG2.out _ hb1).mono ?_); rintro e w2 ⟨rfl, hb2⟩))
      go_ret
      exact ⟨rfl, hb1.trans (hb2.mono hb1.size)⟩
    · rw [hg2] at hG2
      have HG := Lib.hid hG
      have HG2 := Lib.hid hG2
      clear hG hG2 hg hg1 hg2 h hv hz
      go_enter Try.func7, Try.ntmps7
      go_wp2_with (first | ((with_reducible refine HG.out.mono ?_); rintro e w1 ⟨rfl, hb1⟩) | ((with_reducible refine (HG2.out _ hb1).mono ?_); rintro e w2 ⟨rfl, hb2⟩))
      go_ret
      exact ⟨rfl, hb1.trans (hb2.mono hb1.size)⟩
  · rw [hg1] at hG
    have HG := Lib.hid hG
    clear hG hG2 hg hg1 h hv hz
    go_enter Try.func7, Try.ntmps7
    go_wp2_with ((with_reducible refine HG.out.mono ?_); rintro e w1 ⟨rfl, hb1⟩)
    go_ret
    exact ⟨rfl, hb1⟩
set_option maxHeartbeats 4000000 in
set_option maxRecDepth 100000 in
theorem compares_small (S : Nat → Prop) (u v z : Value) (a b : List Btc) (is : List Int) (c kind : Int) (w : World) (h : RBtcs S w u a) (hv : RBtcs S w v b) (hz : RInts S w z is) (hg1 : great a = false) (hg2 : great b = false) (hli : is.length ≤ 100) :
    Calls Try.prog 7 #[u, v, .int .i64 c, .int .u8 kind, z] w fun e w' => e = .returned (.bool true) ∧ Below w.heap.size w w' := by
  obtain ⟨I, hI⟩ : ∃ I, fitI a b c kind = I := ⟨_, rfl⟩
  obtain ⟨PL, hPL⟩ : ∃ PL, (if fitI a b c kind = 0 then placesL a b else []) = PL := ⟨_, rfl⟩
  obtain ⟨J, hJ⟩ : ∃ J, repI a b c kind is = J := ⟨_, rfl⟩
  obtain ⟨RL, hRL⟩ : ∃ RL, repV a b c kind is = RL := ⟨_, rfl⟩
  obtain ⟨xs, hxs⟩ : ∃ xs, shape RL = xs := ⟨_, rfl⟩
  have hxl : RL.length = xs.length := by rw [← hxs]; simp [shape]
  have Hxs := Lib.hid hxs; have Hxl := Lib.hid hxl
  have hsa := small_of hg1
  have hsb := small_of hg2
  have hpl : PL.length ≤ 140737488355328 := by
    rw [← hPL]
    split
    · have h1 := difAll_len (b := b) hsa a.length (Nat.le_refl _)
      have h2 := hsa.1
      have : (placesL a b).length ≤ a.length * 1000000 := h1
      omega
    · simp
  have hG := great26 S u a w h
  have hG2 := fun W hW => great26 S v b W (hv.same (.of_below (hW : Below w.heap.size w W)))
  rw [hg1] at hG
  rw [hg2] at hG2
  have hA := fun W p q (hp : RBtcs Any W p a) (hq : RBtcs Any W q b) => (canvassCompare Any Any p q a b c kind W hp hq hsa hsb.1).mono fun _ _ => CmpOpen.of hI hPL
  have hB := fun W p q (hp : RBtcs S W p a) (hq : RBtcs S W q b) => (refCompare S S p q a b c kind W hp hq hsa hsb.1).mono fun _ _ => CmpOpen.of hI hPL
  have hC := fun W p q r (hp : RBtcs Any W p a) (hq : RBtcs Any W q b) (hr : RInts Any W r is) => (canvassReplace Any Any Any p q r a b c kind is W hp hq hr (by omega) hsa hsb).mono fun _ _ => RepOpen.of hJ hRL
  have hD := fun W p q r (hp : RBtcs S W p a) (hq : RBtcs S W q b) (hr : RInts S W r is) => (refReplace S S S p q r a b c kind is W hp hq hr (by omega) hsa hsb).mono fun _ _ => RepOpen.of hJ hRL
  obtain ⟨a1, cap1, rfl, -, -⟩ := RSl.shape h
  obtain ⟨a2, cap2, rfl, -, -⟩ := RSl.shape hv
  obtain ⟨a3, cap3, rfl, -, hz2⟩ := RSl.shape hz
  have HG := Lib.hid hG; have HG2 := Lib.hid hG2; have HA := Lib.hid hA; have HB := Lib.hid hB; have HC := Lib.hid hC; have HD := Lib.hid hD
  have H := Lib.hid h; have Hv := Lib.hid hv; have Hz := Lib.hid hz; have Hsa := Lib.hid hsa; have Hsb := Lib.hid hsb; have Hpl := Lib.hid hpl
  clear hG hG2 hA hB hC hD h hv hz hsa hsb hg1 hg2 hI hPL hJ hRL hpl hxs hxl
  go_enter Try.func7, Try.ntmps7
  go_upto_region 4 with (first
    | ((with_reducible refine HG.out.mono ?_); rintro e w1 ⟨rfl, hb1⟩)
    | ((with_reducible refine (HG2.out _ hb1).mono ?_); rintro e w2 ⟨rfl, hb2⟩; have hq2 : Below w.heap.size w w2 := hb1.trans (hb2.mono hb1.size))
    | (go_at_call_of 20 (a1); refine (twinRef S _ a _ (H.out.same (.of_below hq2)) Hsa.out).mono ?_; rintro e w3 ⟨v3, ys, rfl, htw, hys, hb3⟩; have hq3 := hq2.trans (hb3.mono hq2.size); have hr3 := RBtcs.mono (T := Any) (fun _ _ => trivial) (twin_reads htw hys Hsa.out).toR; obtain ⟨a4, c4, rfl, -, -⟩ := id (RSl.shape hr3); have hl3 := hq3.size; have HR3 := Lib.hid hr3; clear htw hys hr3)
    | (go_at_call 20; refine (twinRef S _ b _ (Hv.out.same (.of_below hq3)) Hsb.out).mono ?_; rintro e w4 ⟨v4, zs, rfl, htw4, hzs, hb4⟩; have hq4 := hq3.trans (hb4.mono hl3); have hr4 := RBtcs.mono (T := Any) (fun _ _ => trivial) (twin_reads htw4 hzs Hsb.out).toR; obtain ⟨a5, c5, rfl, -, -⟩ := id (RSl.shape hr4); have hl4 := hq4.size; have HR4 := Lib.hid hr4; clear htw4 hzs hr4)
    | (at_builtin; go_must (refine wpList_app _ Try.infoInt rfl rfl Try.underlying23 ⟨rfl, by omega, by omega⟩ (dInt.one _) (dInt.stable (fun _ => False) _) w4.heap.size (Own.fresh _ _ _ _ 0 (box_new w4 (.cells #[] 3)) (Nat.le_refl _) (by simp [maxLen]) rfl) rfl (RInts.same (.of_below (hq4.alloc hl4 _)) Hz.out) rfl (by simp; omega) (by simp) ?_); intro a6 c6 w5 hgr hat ho; have ho5 := ho (fun _ _ hh => hh.elim); simp only [List.nil_append] at ho5; have hb5 : Below w4.heap.size w4 w5 := (below_new _ _).grown hgr (by simp) (by simp [Value.ownBlock]); have Ho5 := Lib.hid ho5; have Hgr := Lib.hid hgr; have Hat := Lib.hid hat; clear ho ho5 hgr hat))
  have hq5 : Below w.heap.size w w5 := hq4.trans (hb5.mono hl4)
  have hl5 := hb5.size
  have hl43 : w3.heap.size ≤ w4.heap.size := hb4.size
  have hR : ∀ W, Below w5.heap.size w5 W → RBtcs Any W (.slice a4 a.length c4) a := fun W hW => ((HR3.out.same (.of_below hb4)).same (.of_below hb5)).same (.of_below hW)
  have hO : ∀ W, Below w5.heap.size w5 W → RBtcs Any W (.slice a5 b.length c5) b := fun W hW => (HR4.out.same (.of_below hb5)).same (.of_below hW)
  have hLa : ∀ W, Below w5.heap.size w5 W → RBtcs S W (.slice a1 a.length cap1) a := fun W hW => (H.out.same (.of_below hq5)).same (.of_below hW)
  have hLb : ∀ W, Below w5.heap.size w5 W → RBtcs S W (.slice a2 b.length cap2) b := fun W hW => (Hv.out.same (.of_below hq5)).same (.of_below hW)
  have hLz : ∀ W, Below w5.heap.size w5 W → RInts S W (.slice a3 is.length cap3) is := fun W hW => RInts.same (.of_below hW) (RInts.same (.of_below hq5) Hz.out)
  have hAz : ∀ W, Below w5.heap.size w5 W → RInts Any W (.slice a6 is.length c6) is := fun W hW => RInts.same (.of_below hW) (RInts.mono (fun _ _ => trivial) (Own.rsl Ho5.out (by omega)))
  have HRR := Lib.hid hR; have HOO := Lib.hid hO; have HLa := Lib.hid hLa; have HLb := Lib.hid hLb; have HLz := Lib.hid hLz; have HAz := Lib.hid hAz
  clear hR hO hLa hLb hLz hAz HG HG2 Ho5 Hgr Hat
  go_upto_block 0 with (first
    | (go_at_call 47; refine (HA.out _ _ _ (HRR.out _ (Below.refl _ _)) (HOO.out _ (Below.refl _ _))).mono ?_; rintro e w6 ⟨v6, rfl, ho6, hb6⟩; obtain ⟨ax6, cx6, rfl⟩ := id (Own.shape ho6); have hl6 := hb6.size; have Ho6 := Lib.hid ho6; clear ho6)
    | (go_at_call 48; refine (HB.out _ _ _ (HLa.out _ hb6) (HLb.out _ hb6)).mono ?_; rintro e w7 ⟨v7, rfl, ho7, hb7⟩; obtain ⟨ax7, cx7, rfl⟩ := id (Own.shape ho7); have hp7 := hb6.trans (hb7.mono hl6); have hl7 := hp7.size; have Ho7 := Lib.hid ho7; clear ho7)
    | (go_at_call 49; refine (HC.out _ _ _ _ (HRR.out _ hp7) (HOO.out _ hp7) (HAz.out _ hp7)).mono ?_; rintro e w8 ⟨v8, rfl, hr8, hb8⟩; obtain ⟨ax8, cx8, e8, -, -⟩ := id (RSl.shape hr8.1); rw [Hxl.out] at e8; subst e8; have hl8 := hb8.size; have hp8 := hp7.trans (hb8.mono hl7); have Hr8 := Lib.hid hr8; clear hr8)
    | (go_at_call 50; refine (HD.out _ _ _ _ (HLa.out _ hp8) (HLb.out _ hp8) (HLz.out _ hp8)).mono ?_; rintro e w9 ⟨v9, rfl, hr9, hb9⟩; obtain ⟨ax9, cx9, rfl, -, -⟩ := id (RSl.shape hr9.1); have hl9 := hb9.size; have Hr9 := Lib.hid hr9; clear hr9)
    | (go_at_call 51; refine (samePlacesT _ _ _ _ _ _ (RSl.same (dPlace.stable _) (.of_below ((hb7.trans (hb8.mono hb7.size)).trans (hb9.mono (by have := hb7.size; omega)))) (Own.rsl Ho6.out Hpl.out)) (RSl.same (dPlace.stable _) (.of_below (hb8.trans (hb9.mono hl8))) (Own.rsl Ho7.out Hpl.out))).mono ?_; rintro e w10 ⟨rfl, hb10⟩; have hl10 := hb10.size)
    | (go_at_call 24; refine (sameT _ _ _ _ _ _ (Hr8.out.same (.of_below (hb9.trans (hb10.mono hl9)))).toR (Hr9.out.same (.of_below hb10)).toR).mono ?_; rintro e w11 ⟨rfl, hb11⟩; have hl11 := hb11.size))
  have h8 : Below w8.heap.size w8 w11 := (hb9.trans (hb10.mono hl9)).trans (hb11.mono (by omega))
  have h7 : Below w7.heap.size w7 w11 := hb8.trans (h8.mono hl8)
  have hsh := ShC.of (fun _ hh => hh) (Hr8.out.same (.of_below h8))
  rw [Hxs.out] at hsh
  obtain ⟨a8', c8', e8', -, hn8, -⟩ := id hsh
  clear HA HB HC HD Ho6 Ho7 Hr8 Hr9 h8
  go_wp2
  go_loopw [23] (fun i wr => ∃ k : Nat, k ≤ xs.length ∧ i = .int .i64 k ∧ ShC w7.heap.size wr (.slice ax8 xs.length cx8) xs ∧ Below w7.heap.size w11 wr) (fun i _ => xs.length - (intOf i).toNat)
  case atStart => exact ⟨0, Nat.zero_le _, rfl, hsh, Below.refl _ _⟩
  case round =>
    clear hsh
    obtain ⟨k, hk, rfl, hs, hb⟩ := hrel
    by_cases hlt : k < xs.length
    · go_wp2
      obtain ⟨wo, rfl⟩ : ∃ wo, wo = wr := ⟨_, rfl⟩
      go_loopw [24] (fun i wr => ∃ j : Nat, j ≤ xs[k].length ∧ i = .int .i64 j ∧ ShC w7.heap.size wr (.slice ax8 xs.length cx8) xs ∧ Below w7.heap.size w11 wr) (fun i _ => xs[k].length - (intOf i).toNat)
      case atStart => exact ⟨0, Nat.zero_le _, rfl, hs, hb⟩
      case round =>
        obtain ⟨j, hj, rfl, hs, hb⟩ := hrel
        obtain ⟨a0, cap0, e0, -, -, hx⟩ := id hs
        simp only [Value.slice.injEq] at e0
        obtain ⟨rfl, -, -⟩ := e0
        obtain ⟨b', off, i0, d0, rfl, hb0, hsf, hc, hd, hB'⟩ := hx k hlt
        obtain ⟨a1', cap1', rfl, hB1, hB2, hx1⟩ := id hB'
        clear hx
        by_cases hjl : j < xs[k].length
        · clear hx1
          go_wp2
          obtain ⟨wp, rfl⟩ : ∃ wp, wp = wr := ⟨_, rfl⟩
          go_loopw [25] (fun i wr => ∃ m : Nat, m ≤ xs[k][j] ∧ i = .int .i64 m ∧ ShC w7.heap.size wr (.slice (some ⟨b', off, none⟩) xs.length cx8) xs ∧ Below w7.heap.size w11 wr) (fun i _ => xs[k][j] - (intOf i).toNat)
          case atStart => exact ⟨0, Nat.zero_le _, rfl, hs, hb⟩
          case round =>
            clear hc hd hsf hB' hs hb
            obtain ⟨m, hm, rfl, hs, hb⟩ := hrel
            obtain ⟨a0, cap0, e0, -, -, hx⟩ := id hs
            simp only [Value.slice.injEq] at e0
            obtain ⟨rfl, -, -⟩ := e0
            obtain ⟨b'', off', i0, d0, e1, hb0, hsf, hc, hd, hB'⟩ := hx k hlt
            simp only [Option.some.injEq, Addr.mk.injEq, and_true] at e1
            obtain ⟨rfl, rfl⟩ := e1
            obtain ⟨a1', cap1', rfl, hB1, hB2, hx1⟩ := id hB'
            obtain ⟨b2', off2, i2, d2, rfl, hb2', hsf2, hc2, hd2, hI2⟩ := hx1 j hjl
            obtain ⟨a2', cap2', rfl, hI1, hI3, hx2⟩ := id hI2
            clear hx hx1
            by_cases hml : m < xs[k][j]
            · obtain ⟨b3, off3, i3, rfl, hb3', hsf3, hc3⟩ := hx2 m hml
              have hf3 := hsf3.frozen (off3 + m)
              clear hx2
              go_wp2
              exact ⟨⟨m + 1, by omega, by go_num, hs.kin (Kin.setCell hc3 (.inl ⟨_, _, _, rfl, rfl⟩)), hb.setCell (p := ⟨b3, off3 + m, none⟩) hb3' _⟩, by simp [intOf]; omega⟩
            · clear hx2
              go_wp2
              exact ⟨⟨j + 1, by omega, by go_num, hs, hb⟩, by simp [intOf]; omega⟩
        · clear hx1
          go_wp2
          exact ⟨⟨k + 1, by omega, by go_num, hs, hb⟩, by simp [intOf]; omega⟩
    · have hpr : Below w5.heap.size w5 wr := (hp7.trans (h7.mono hl7)).trans (hb.mono hl7)
      go_wp2_with (first
        | (go_at_call_of 24 (a4); refine (sameT _ _ _ _ _ _ (HRR.out _ hpr) (HLa.out _ hpr)).mono ?_; rintro e w12 ⟨rfl, hb12⟩; have hp12 := hpr.trans (hb12.mono hpr.size))
        | (go_at_call 24; refine (sameT _ _ _ _ _ _ (HOO.out _ hp12) (HLb.out _ hp12)).mono ?_; rintro e w13 ⟨rfl, hb13⟩))
      go_ret
      exact ⟨rfl, hq5.trans ((hp12.trans (hb13.mono hp12.size)).mono hq5.size)⟩
theorem law_compares (u v z : Value) (a b : List Btc) (c kind : Int) (is : List Int) (w : World) (h : RBtcs Any w u a) (hv : RBtcs Any w v b) (_ : (Lit.int .i64 c).wf = true) (_ : (Lit.int .u8 kind).wf = true) (hz : RInts Any w z is) :
    Calls Try.prog 7 #[u, v, .int .i64 c, .int .u8 kind, z] w fun e w' => e = .returned (.bool true) ∧ Below w.heap.size w w' := by
  cases hg : (great a || great b || decide (100 < is.length))
  · simp only [Bool.or_eq_false_iff, decide_eq_false_iff_not] at hg
    exact compares_small Any u v z a b is c kind w h hv hz hg.1.1 hg.1.2 (by omega)
  · exact compares_great Any u v z a b is c kind w h hv hz hg
end Go.Proofs.Ytkjgddcjhikdgaa
