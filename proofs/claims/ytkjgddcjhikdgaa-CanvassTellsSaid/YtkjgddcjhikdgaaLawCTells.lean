/- What the law CanvassTells answers. -/
import Derived.Test.YtkjgddcjhikdgaaLawTells
import Derived.Test.YtkjgddcjhikdgaaReco
import Derived.Test.YtkjgddcjhikdgaaReco2
import Derived.Test.YtkjgddcjhikdgaaArgS
namespace Go.Proofs.Ytkjgddcjhikdgaa
open Go Go.RowKit Go.Shelf

def RecoOpen (FL : List Fnd) (I : Int) (w : World) (e : Ending) (w' : World) : Prop :=
  ∃ v, e = .returned (.tuple #[v, .int .i64 I]) ∧ Own w.heap.size 113 4 dFnd w' v FL ∧ Below w.heap.size w w'
theorem RecoOpen.of {m : List Slot} {l : List Btc} {c kind voted : Int} {FL : List Fnd} {I : Int} {w w' : World} {e : Ending} (hI : recoI m l c kind voted = I) (hP : recoV m l c kind voted = FL) (h : RecoGives m l c kind voted w e w') : RecoOpen FL I w e w' := by
  subst hI; subst hP; exact h
theorem sameFndsT (S T : Nat → Prop) (u v : Value) (xs : List Fnd) (w : World) (hx : RSl S 4 dFnd w u xs) (hy : RSl T 4 dFnd w v xs) :
    Calls Try.prog 35 #[u, v] w fun e w' => e = .returned (.bool true) ∧ Below w.heap.size w w' := by
  have := sameFnds S T u v xs xs w hx hy
  rwa [eqL_refl eqFnd_refl] at this
theorem sameSlotsT (S T : Nat → Prop) (u v : Value) (xs : List Slot) (w : World) (hx : RSl S 2 dSlot w u xs) (hy : RSl T 2 dSlot w v xs) :
    Calls Try.prog 32 #[u, v] w fun e w' => e = .returned (.bool true) ∧ Below w.heap.size w w' := by
  have := sameSlots S T u v xs xs w hx hy
  rwa [eqL_refl eqSlot_refl] at this
set_option maxHeartbeats 1000000 in
theorem ctells_great (S : Nat → Prop) (u v : Value) (m : List Slot) (l : List Btc) (c kind voted : Int) (w : World) (h : RSl S 2 dSlot w u m) (hv : RBtcs S w v l) (hg : (greatS m || great l) = true) :
    Calls Try.prog 4 #[u, v, .int .i64 c, .int .u8 kind, .int .i64 voted] w fun e w' => e = .returned (.bool true) ∧ Below w.heap.size w w' := by
  have hG := greatSlots S u m w h
  have hG2 := fun W hW => great26 S v l W (hv.same (.of_below (hW : Below w.heap.size w W)))
  obtain ⟨a1, cap1, rfl, -, -⟩ := RSl.shape h
  obtain ⟨a2, cap2, rfl, -, -⟩ := RSl.shape hv
  cases hg1 : greatS m
  · rw [hg1] at hG hg
    have hg2 : great l = true := by simpa using hg
    rw [hg2] at hG2
    have HG := Lib.hid hG
    have HG2 := Lib.hid hG2
    clear hG hG2 hg hg1 hg2 h hv
    go_enter Try.func4, Try.ntmps4
    go_wp2_with (first | (go_at_call 27; refine HG.out.mono ?_; rintro e w1 ⟨rfl, hb1⟩) | (go_at_call 18; refine (HG2.out _ hb1).mono ?_; rintro e w2 ⟨rfl, hb2⟩))
    go_ret
    exact ⟨rfl, hb1.trans (hb2.mono hb1.size)⟩
  · rw [hg1] at hG
    have HG := Lib.hid hG
    clear hG hG2 hg hg1 h hv
    go_enter Try.func4, Try.ntmps4
    go_wp2_with (go_at_call 27; refine HG.out.mono ?_; rintro e w1 ⟨rfl, hb1⟩)
    go_ret
    exact ⟨rfl, hb1⟩
set_option maxHeartbeats 4000000 in
set_option maxRecDepth 100000 in
theorem ctells_small (S : Nat → Prop) (u v : Value) (m : List Slot) (l : List Btc) (c kind voted : Int) (w : World) (h : RSl S 2 dSlot w u m) (hv : RBtcs S w v l) (hvw : (Lit.int .i64 voted).wf = true) (hg1 : greatS m = false) (hg2 : great l = false) :
    Calls Try.prog 4 #[u, v, .int .i64 c, .int .u8 kind, .int .i64 voted] w fun e w' => e = .returned (.bool true) ∧ Below w.heap.size w w' := by
  obtain ⟨I, hI⟩ : ∃ I, recoI m l c kind voted = I := ⟨_, rfl⟩
  obtain ⟨FL, hFL⟩ : ∃ FL, recoV m l c kind voted = FL := ⟨_, rfl⟩
  obtain ⟨rc, hrc⟩ : ∃ rc, chkS m = rc := ⟨_, rfl⟩
  have hsl := small_of hg2
  have hlm : m.length ≤ 100 := by simp [greatS] at hg1; omega
  have hfl : FL.length ≤ 140737488355328 := by
    rw [← hFL, recoV]
    split
    · have h1 := flat_len (fndM l) (fndM_len l) m
      have h2 := flat_len (fndX m) (fndX_len m) l
      have h3 := hsl.1
      have h4 : (fndV (allN l) voted).length ≤ 1 := by unfold fndV; split <;> simp
      rw [recL, List.length_append, List.length_append]
      omega
    · simp
  have hml : (maniL l).length ≤ 140737488355328 := by have := hsl.1; simp [maniL]; omega
  have hG := greatSlots S u m w h
  have hG2 := fun W hW => great26 S v l W (hv.same (.of_below (hW : Below w.heap.size w W)))
  rw [hg1] at hG
  rw [hg2] at hG2
  have hA := fun W p q (hp : RSl Any 2 dSlot W p m) (hq : RBtcs Any W q l) => (canvassReconcile Any p q m l c kind voted W hp hq (by omega) hsl hvw).mono fun _ _ => RecoOpen.of hI hFL
  have hB := fun W p q (hp : RSl S 2 dSlot W p m) (hq : RBtcs S W q l) => (refReconcile S p q m l c kind voted W hp hq (by omega) hsl hvw).mono fun _ _ => RecoOpen.of hI hFL
  have hC := fun W p (hp : RSl Any 2 dSlot W p m) => canvassCheck Any p m W hp
  have hD := fun W p (hp : RSl S 2 dSlot W p m) => refCheckS S p m W hp
  rw [hrc] at hC hD
  obtain ⟨a1, cap1, rfl, -, hm2⟩ := RSl.shape h
  obtain ⟨a2, cap2, rfl, -, -⟩ := RSl.shape hv
  have HG := Lib.hid hG; have HG2 := Lib.hid hG2; have HA := Lib.hid hA; have HB := Lib.hid hB; have HC := Lib.hid hC; have HD := Lib.hid hD
  have H := Lib.hid h; have Hv := Lib.hid hv; have Hsl := Lib.hid hsl; have Hfl := Lib.hid hfl; have Hml := Lib.hid hml
  clear hG hG2 hA hB hC hD h hv hsl hg1 hg2 hI hFL hrc hfl hml hvw
  go_enter Try.func4, Try.ntmps4
  go_upto_region 4 with (first
    | (go_at_call 27; refine HG.out.mono ?_; rintro e w1 ⟨rfl, hb1⟩)
    | (go_at_call 18; refine (HG2.out _ hb1).mono ?_; rintro e w2 ⟨rfl, hb2⟩; have hq2 : Below w.heap.size w w2 := hb1.trans (hb2.mono hb1.size))
    | (go_at_call 20; refine (twinRef S _ l _ (Hv.out.same (.of_below hq2)) Hsl.out).mono ?_; rintro e w3 ⟨v3, ys, rfl, htw, hys, hb3⟩; have hq3 := hq2.trans (hb3.mono hq2.size); have hr3 := RBtcs.mono (T := Any) (fun _ _ => trivial) (twin_reads htw hys Hsl.out).toR; obtain ⟨a4, c4, rfl, -, -⟩ := id (RSl.shape hr3); have hl3 := hq3.size; have HR3 := Lib.hid hr3; clear htw hys hr3)
    | (at_builtin; go_must (refine wpList_app _ Try.infoSlot rfl rfl Try.underlying39 ⟨rfl, by omega, by omega⟩ dSlot.one (dSlot.stable (fun _ => False)) w3.heap.size (Own.fresh _ _ _ _ 0 (box_new w3 (.cells #[] 95)) (Nat.le_refl _) (by simp [maxLen]) rfl) rfl (RSl.same (dSlot.stable _) (.of_below (hq3.alloc hl3 _)) H.out) rfl (by simp; omega) (by simp) ?_); intro a6 c6 w5 hgr hat ho; have ho5 := ho (fun _ _ hh => hh.elim); simp only [List.nil_append] at ho5; have hb5 : Below w3.heap.size w3 w5 := (below_new _ _).grown hgr (by simp) (by simp [Value.ownBlock]); have Ho5 := Lib.hid ho5; have Hgr := Lib.hid hgr; have Hat := Lib.hid hat; clear ho ho5 hgr hat))
  have hq5 : Below w.heap.size w w5 := hq3.trans (hb5.mono hl3)
  have hl5 := hb5.size
  have hR : ∀ W, Below w5.heap.size w5 W → RBtcs Any W (.slice a4 l.length c4) l := fun W hW => (HR3.out.same (.of_below hb5)).same (.of_below hW)
  have hLl : ∀ W, Below w5.heap.size w5 W → RBtcs S W (.slice a2 l.length cap2) l := fun W hW => (Hv.out.same (.of_below hq5)).same (.of_below hW)
  have hLm : ∀ W, Below w5.heap.size w5 W → RSl S 2 dSlot W (.slice a1 m.length cap1) m := fun W hW => RSl.same (dSlot.stable _) (.of_below hW) (RSl.same (dSlot.stable _) (.of_below hq5) H.out)
  have hAm : ∀ W, Below w5.heap.size w5 W → RSl Any 2 dSlot W (.slice a6 m.length c6) m := fun W hW => RSl.same (dSlot.stable _) (.of_below hW) (RSl.mono (fun _ _ _ h => h) (fun _ _ => trivial) (Own.rsl Ho5.out (by omega)))
  have HRR := Lib.hid hR; have HLl := Lib.hid hLl; have HLm := Lib.hid hLm; have HAm := Lib.hid hAm
  clear hR hLl hLm hAm HG HG2 Ho5 Hgr Hat
  go_wp2_with (first
    | (go_at_call 28; refine (HA.out _ _ _ (HAm.out _ (Below.refl _ _)) (HRR.out _ (Below.refl _ _))).mono ?_; rintro e w6 ⟨v6, rfl, ho6, hb6⟩; obtain ⟨ax6, cx6, rfl⟩ := id (Own.shape ho6); have hl6 := hb6.size; have Ho6 := Lib.hid ho6; clear ho6)
    | (go_at_call 29; refine (HB.out _ _ _ (HLm.out _ hb6) (HLl.out _ hb6)).mono ?_; rintro e w7 ⟨v7, rfl, ho7, hb7⟩; obtain ⟨ax7, cx7, rfl⟩ := id (Own.shape ho7); have hp7 := hb6.trans (hb7.mono hl6); have hl7 := hp7.size; have hs7 := hb7.size; have Ho7 := Lib.hid ho7; clear ho7)
    | (go_at_call 30; refine (HC.out _ _ (HAm.out _ hp7)).mono ?_; rintro e w8 ⟨rfl, hb8⟩; have hp8 := hp7.trans (hb8.mono hl7); have hl8 := hp8.size; have hs8 := hb8.size)
    | (go_at_call 31; refine (HD.out _ _ (HLm.out _ hp8)).mono ?_; rintro e w9 ⟨rfl, hb9⟩; have hp9 := hp8.trans (hb9.mono hl8); have hl9 := hp9.size; have hs9 := hb9.size)
    | (go_at_call 33; refine (manifest Any _ l _ (HRR.out _ hp9) Hsl.out.1).mono ?_; rintro e w10 ⟨v10, rfl, ho10, hb10⟩; obtain ⟨ax10, cx10, rfl⟩ := id (Own.shape ho10); have hp10 := hp9.trans (hb10.mono hl9); have hl10 := hp10.size; have hs10 := hb10.size; have Ho10 := Lib.hid ho10; clear ho10)
    | (go_at_call 34; refine (refManifest S _ l _ (HLl.out _ hp10) Hsl.out.1).mono ?_; rintro e w11 ⟨v11, rfl, ho11, hb11⟩; obtain ⟨ax11, cx11, rfl⟩ := id (Own.shape ho11); have hp11 := hp10.trans (hb11.mono hl10); have hl11 := hp11.size; have hs11 := hb11.size; have Ho11 := Lib.hid ho11; clear ho11)
    | (go_at_call_of 32 (ax10); refine (sameSlotsT _ _ _ _ (maniL l) _ (RSl.same (dSlot.stable _) (.of_below hb11) (Own.rsl Ho10.out Hml.out)) (Own.rsl Ho11.out Hml.out)).mono ?_; rintro e w12 ⟨rfl, hb12⟩; have hp12 := hp11.trans (hb12.mono hl11); have hl12 := hp12.size; have hs12 := hb12.size; have h712 : Below w7.heap.size w7 w12 := ((((hb8.trans (hb9.mono (by omega))).trans (hb10.mono (by omega))).trans (hb11.mono (by omega))).trans (hb12.mono (by omega))))
    | (go_at_call 35; refine (sameFndsT _ _ _ _ FL _ (RSl.same (dFnd.stable _) (.of_below (hb7.trans (h712.mono hs7))) (Own.rsl Ho6.out Hfl.out)) (RSl.same (dFnd.stable _) (.of_below h712) (Own.rsl Ho7.out Hfl.out))).mono ?_; rintro e w13 ⟨rfl, hb13⟩; have hp13 := hp12.trans (hb13.mono hl12); have hl13 := hp13.size)
    | (go_at_call 24; refine (sameT _ _ _ _ _ _ (HRR.out _ hp13) (HLl.out _ hp13)).mono ?_; rintro e w14 ⟨rfl, hb14⟩; have hp14 := hp13.trans (hb14.mono hl13); have hl14 := hp14.size)
    | (go_at_call 32; refine (sameSlotsT _ _ _ _ m _ (HAm.out _ hp14) (HLm.out _ hp14)).mono ?_; rintro e w15 ⟨rfl, hb15⟩))
  go_ret
  exact ⟨rfl, hq5.trans ((hp14.trans (hb15.mono hl14)).mono hq5.size)⟩
theorem law_ctells (u v : Value) (m : List Slot) (l : List Btc) (c kind voted : Int) (w : World) (h : RSl Any 2 dSlot w u m) (hv : RBtcs Any w v l) (_ : (Lit.int .i64 c).wf = true) (_ : (Lit.int .u8 kind).wf = true) (hvw : (Lit.int .i64 voted).wf = true) :
    Calls Try.prog 4 #[u, v, .int .i64 c, .int .u8 kind, .int .i64 voted] w fun e w' => e = .returned (.bool true) ∧ Below w.heap.size w w' := by
  cases hg : (greatS m || great l)
  · simp only [Bool.or_eq_false_iff] at hg
    exact ctells_small Any u v m l c kind voted w h hv hvw hg.1 hg.2
  · exact ctells_great Any u v m l c kind voted w h hv hg
end Go.Proofs.Ytkjgddcjhikdgaa
