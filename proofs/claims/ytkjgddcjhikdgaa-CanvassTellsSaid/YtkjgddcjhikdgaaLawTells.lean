/- What the law RecordTells answers. -/
import Derived.Test.YtkjgddcjhikdgaaLawPuts
import Derived.Test.YtkjgddcjhikdgaaAt
import Derived.Test.YtkjgddcjhikdgaaSizes
import Derived.Test.YtkjgddcjhikdgaaSame3
import Derived.Deep.CutBlock
namespace Go.Proofs.Ytkjgddcjhikdgaa
open Go Go.RowKit

set_option maxHeartbeats 1000000 in
theorem tells_great (S : Nat → Prop) (v u : Value) (l o : List Btc) (c kind bt k : Int) (w : World) (h : RBtcs S w v l) (hu : RBtcs S w u o) (hg : (great l || great o) = true) :
    Calls Try.prog 5 #[v, u, .int .i64 c, .int .u8 kind, .int .i64 bt, .int .i64 k] w fun e w' => e = .returned (.bool true) ∧ Below w.heap.size w w' := by
  have hG := great26 S v l w h
  have hG2 := fun W hW => great26 S u o W (hu.same (.of_below (hW : Below w.heap.size w W)))
  obtain ⟨a1, cap1, rfl, -, -⟩ := RSl.shape h
  obtain ⟨a2, cap2, rfl, -, -⟩ := RSl.shape hu
  cases hg1 : great l
  · rw [hg1] at hG hg
    have hg2 : great o = true := by simpa using hg
    rw [hg2] at hG2
    have HG := Lib.hid hG
    have HG2 := Lib.hid hG2
    clear hG hG2 hg hg1 hg2 h hu
    go_enter Try.func5, Try.ntmps5
    go_wp2_with (first | ((with_reducible refine HG.out.mono ?_); rintro e w1 ⟨rfl, hb1⟩) | ((with_reducible refine (HG2.out _ hb1).mono ?_); rintro e w2 ⟨rfl, hb2⟩))
    go_ret
    exact ⟨rfl, hb1.trans (hb2.mono hb1.size)⟩
  · rw [hg1] at hG
    have HG := Lib.hid hG
    clear hG hG2 hg hg1 h hu
    go_enter Try.func5, Try.ntmps5
    go_wp2_with ((with_reducible refine HG.out.mono ?_); rintro e w1 ⟨rfl, hb1⟩)
    go_ret
    exact ⟨rfl, hb1⟩
theorem intsT (S T : Nat → Prop) (u v : Value) (xs : List Int) (w : World) (hx : RInts S w u xs) (hy : RInts T w v xs) :
    Calls Try.prog 41 #[u, v] w fun e w' => e = .returned (.bool true) ∧ Below w.heap.size w w' := by
  have := ints08 S T u v xs xs w hx hy
  rwa [eqL_refl (p := eqInt) (fun x => by simp [eqInt])] at this
theorem recordSameT (S T : Nat → Prop) (u v : Value) (xs : List Btc) (w : World) (hx : RBtcs S w u xs) (hy : RBtcs T w v xs) :
    Calls Try.prog 44 #[u, v] w fun e w' => e = .returned (.bool true) ∧ Below w.heap.size w w' := by
  have := recordSame S T u v xs xs w hx hy
  rwa [eqL_refl eqBtc_refl] at this
/-- At, its ballot laid open. -/
def AtOpen (X : Blt) (I : Int) (w : World) (e : Ending) (w' : World) : Prop :=
  ∃ a n, e = .returned (.tuple #[.agg #[.int .u8 X.kind, .slice a X.marks.length n], .int .i64 I]) ∧ X.marks.length ≤ 140737488355328 ∧ wBlt (Span w.heap.size w'.heap.size) w' [.int .u8 X.kind, .slice a X.marks.length n] X ∧ Below w.heap.size w w'
theorem AtOpen.of {l : List Btc} {c kind bt k : Int} {X : Blt} {I : Int} {w w' : World} {e : Ending} (hX : bltAt l c kind bt k = X) (hI : answAt l c kind bt k = I) (h : AtGives l c kind bt k w e w') : AtOpen X I w e w' := by
  obtain ⟨v, he, ⟨c0, d0, rfl, hx⟩, hb⟩ := h
  rw [hX] at hx
  rw [hI] at he
  obtain ⟨a, n, rfl, rfl, hl, -, -, -⟩ := id hx.toD.open
  exact ⟨a, n, he, hl, hx.cut.mono (fun b hb => ⟨hb.1, hb.2⟩), hb⟩
set_option maxHeartbeats 4000000 in
set_option maxRecDepth 100000 in
theorem tells_small (S : Nat → Prop) (v u : Value) (l o : List Btc) (c kind bt k : Int) (w : World) (h : RBtcs S w v l) (hu : RBtcs S w u o) (hg1 : great l = false) (hg2 : great o = false)
    (hbt : -9223372036854775808 ≤ bt ∧ bt ≤ 9223372036854775807) (hkk : -9223372036854775808 ≤ k ∧ k ≤ 9223372036854775807) :
    Calls Try.prog 5 #[v, u, .int .i64 c, .int .u8 kind, .int .i64 bt, .int .i64 k] w fun e w' => e = .returned (.bool true) ∧ Below w.heap.size w w' := by
  obtain ⟨X, hX⟩ : ∃ X, bltAt l c kind bt k = X := ⟨_, rfl⟩
  obtain ⟨I, hI⟩ : ∃ I, answAt l c kind bt k = I := ⟨_, rfl⟩
  have hsm := small_of hg1
  have hG := great26 S v l w h
  have hG2 := fun W hW => great26 S u o W (hu.same (.of_below (hW : Below w.heap.size w W)))
  rw [hg1] at hG
  rw [hg2] at hG2
  obtain ⟨a1, cap1, rfl, -, -⟩ := RSl.shape h
  obtain ⟨a2, cap2, rfl, -, -⟩ := RSl.shape hu
  have hA := fun W v (hr : RBtcs Any W v l) => (recordAt Any v l c kind bt k W hr hsm hbt hkk).mono fun _ _ => AtOpen.of hX hI
  have hB := fun W v (hr : RBtcs S W v l) => (refAt S v l c kind bt k W hr hsm hbt hkk).mono fun _ _ => AtOpen.of hX hI
  obtain ⟨rc, hrc⟩ : ∃ rc, recCheck l c kind = rc := ⟨_, rfl⟩
  have hC := fun W v (hr : RBtcs Any W v l) => recordCheck Any v l c kind W hr
  have hD := fun W v (hr : RBtcs S W v l) => refCheck S v l c kind W hr
  rw [hrc] at hC hD
  obtain ⟨eo, heo⟩ : ∃ eo, eqL eqBtc l o = eo := ⟨_, rfl⟩
  have hE := fun W v u (hr : RBtcs Any W v l) (hs : RBtcs S W u o) => recordSame Any S v u l o W hr hs
  have hF := fun W v u (hr : RBtcs S W v l) (hs : RBtcs S W u o) => same26 S S v u l o W hr hs
  rw [heo] at hE hF
  have HG := Lib.hid hG; have HG2 := Lib.hid hG2; have HA := Lib.hid hA; have HB := Lib.hid hB; have HC := Lib.hid hC; have HD := Lib.hid hD; have HE := Lib.hid hE; have HF := Lib.hid hF
  have H := Lib.hid h; have Hu := Lib.hid hu; have Hsm := Lib.hid hsm
  clear hG hG2 hA hB hC hD hE hF h hu hsm hg1 hg2 hX hI hrc heo
  go_enter Try.func5, Try.ntmps5
  go_upto_region 7 with (first
    | ((with_reducible refine HG.out.mono ?_); rintro e w1 ⟨rfl, hb1⟩)
    | ((with_reducible refine (HG2.out _ hb1).mono ?_); rintro e w2 ⟨rfl, hb2⟩; have hq2 : Below w.heap.size w w2 := hb1.trans (hb2.mono hb1.size))
    | (go_at_call 20; refine (twinRef S _ l _ (H.out.same (.of_below hq2)) Hsm.out).mono ?_; rintro e w3 ⟨v3, ys, rfl, htw, hys, hb3⟩; have hq3 := hq2.trans (hb3.mono hq2.size); have hr3 := RBtcs.mono (T := Any) (fun _ _ => trivial) (twin_reads htw hys Hsm.out).toR; obtain ⟨a3, c3, rfl, -, -⟩ := id (RSl.shape hr3); have hl3 := hq3.size; have HR3 := Lib.hid hr3; clear htw hys hr3)
    | (go_at_call 36; refine (HA.out _ _ HR3.out).mono ?_; rintro e w4 ⟨a4, n4, rfl, hn4, hx4, hb4⟩; have hl4 := hb4.size; have HX4 := Lib.hid hx4; clear hx4)
    | (go_at_call 37; have hq4 := hq3.trans (hb4.mono hl3); refine (HB.out _ _ (H.out.same (.of_below (hq4.trans ((below_new _ _).mono hq4.size))))).mono ?_; rintro e w5 ⟨a5, n5, rfl, hn5, hx5, hb5⟩; have hl5 : w4.heap.size < w5.heap.size := (by have := hb5.size; simp at this; omega); have HX5 := Lib.hid hx5; obtain ⟨gz5, hcz5, hfz5⟩ := own_box hb5 (by simp) (box_new w4 _); clear hx5)
    | (go_at_call 38; have hd45 : Below w4.heap.size w4 (w5.alloc (.cells #[.int .u8 X.kind, .slice a5 X.marks.length n5] 25)) := ((below_new _ _).trans (hb5.mono (by simp))).trans ((below_new _ _).mono (by omega)); have hd35 := hb4.trans (hd45.mono hl4); refine (twin Any _ l _ (HR3.out.same (.of_below hd35)) Hsm.out).mono ?_; rintro e w6 ⟨v6, ys6, rfl, htw6, hys6, hb6⟩; have hl6 : w5.heap.size < w6.heap.size := (by have := hb6.size; simp at this; omega); have ht6 := twin_reads htw6 hys6 Hsm.out; obtain ⟨a6, c6, rfl, -, -⟩ := id (RSl.shape ht6.1); have HT6 := Lib.hid ht6; obtain ⟨gz6, hcz6, hfz6⟩ := own_box hb6 (by simp; omega) (box_old _ gz5); obtain ⟨gy6, hcy6, hfy6⟩ := own_box hb6 (by simp) (box_new w5 _); clear htw6 hys6 ht6))
  have hf6 : Below w4.heap.size w4 w6 := hd45.trans (hb6.mono (by simp; omega))
  have hd6 : Below w3.heap.size w3 w6 := hb4.trans (hf6.mono hl4)
  have hq6 : Below w.heap.size w w6 := hq3.trans (hd6.mono hl3)
  have hR : ∀ W, Below w6.heap.size w6 W → RBtcs Any W (.slice a3 l.length c3) l := fun W hW => (HR3.out.same (.of_below hd6)).same (.of_below hW)
  have hL : ∀ W, Below w6.heap.size w6 W → RBtcs S W (.slice a1 l.length cap1) l := fun W hW => (H.out.same (.of_below hq6)).same (.of_below hW)
  have hO : ∀ W, Below w6.heap.size w6 W → RBtcs S W (.slice a2 o.length cap2) o := fun W hW => (Hu.out.same (.of_below hq6)).same (.of_below hW)
  have hX : ∀ W, Below w6.heap.size w6 W → VBlt (Span w3.heap.size w4.heap.size) W (.agg #[.int .u8 X.kind, .slice a4 X.marks.length n4]) X := fun W hW => ⟨_, _, rfl, dBlt.stable _ _ _ _ _ (.of_below hW) (dBlt.stable _ _ _ _ _ (.of_below hf6) HX4.out.toD)⟩
  have hY : ∀ W, Below w6.heap.size w6 W → VBlt (Span (w4.alloc (.cells #[.int .u8 X.kind, .slice a4 X.marks.length n4] 25)).heap.size w5.heap.size) W (.agg #[.int .u8 X.kind, .slice a5 X.marks.length n5]) X := fun W hW =>
    ⟨_, _, rfl, dBlt.stable _ _ _ _ _ (.of_below hW) (dBlt.stable _ _ _ _ _ (.of_below (((below_new _ _).trans (hb6.mono (by simp))) : Below w5.heap.size w5 w6)) HX5.out.toD)⟩
  have HRR := Lib.hid hR; have HLL := Lib.hid hL; have HOO := Lib.hid hO; have HXX := Lib.hid hX; have HYY := Lib.hid hY
  clear hR hL hO hX hY HG HG2 HA HB HX5 hcz5 hfz5 gz5
  go_upto_region 9 with (first
    | (go_at_call 39; refine (HC.out _ _ (HRR.out _ (Below.refl _ _))).mono ?_; rintro e w7 ⟨rfl, hp7⟩; have hl7 := hp7.size)
    | (go_at_call 40; refine (HD.out _ _ (HLL.out _ hp7)).mono ?_; rintro e w8 ⟨rfl, hb8⟩; have hp8 := hp7.trans (hb8.mono hl7); have hl8 := hp8.size; obtain ⟨gz8, hcz8, hfz8⟩ := own_box hp8 (by omega) gz6; obtain ⟨gy8, hcy8, hfy8⟩ := own_box hp8 (by omega) gy6)
    | (go_at_call 26; refine (same08T _ _ _ _ _ _ (HXX.out _ hp8) (HYY.out _ hp8)).mono ?_; rintro e w9 ⟨rfl, hb9⟩; have hp9 := hp8.trans (hb9.mono hl8); have hl9 := hp9.size)
    | (go_at_call 42; refine (recordSizes Any _ l _ (HRR.out _ hp9) Hsm.out).mono ?_; rintro e w10 ⟨v10, rfl, ho10, hb10⟩; obtain ⟨ax10, cx10, rfl⟩ := id (Own.shape ho10); have hp10 := hp9.trans (hb10.mono hl9); have hl10 := hp10.size; have Ho10 := Lib.hid ho10; clear ho10)
    | (go_at_call 43; refine (refSizes S _ l _ (HLL.out _ hp10) Hsm.out).mono ?_; rintro e w11 ⟨v11, rfl, ho11, hb11⟩; obtain ⟨ax11, cx11, rfl⟩ := id (Own.shape ho11); have hp11 := hp10.trans (hb11.mono hl10); have hl11 := hp11.size; have Ho11 := Lib.hid ho11; clear ho11)
    | (go_at_call 41; refine (intsT _ _ _ _ (sizesL l) _ (RInts.same (.of_below hb11) (Own.rsl Ho10.out (by have := Hsm.out.1; simp [sizesL]; omega))) (Own.rsl Ho11.out (by have := Hsm.out.1; simp [sizesL]; omega))).mono ?_; rintro e w12 ⟨rfl, hb12⟩; have hp12 := hp11.trans (hb12.mono hl11); have hl12 := hp12.size)
    | (go_at_call_of 24 (a6); refine (sameT _ _ _ _ _ _ (HT6.out.same (.of_below hp12)).toR (HLL.out _ hp12)).mono ?_; rintro e w13 ⟨rfl, hb13⟩; have hp13 := hp12.trans (hb13.mono hl12); have hl13 := hp13.size)
    | (go_at_call_of 44 (a2); refine (HE.out _ _ _ (HRR.out _ hp13) (HOO.out _ hp13)).mono ?_; rintro e w14 ⟨rfl, hb14⟩; have hp14 := hp13.trans (hb14.mono hl13); have hl14 := hp14.size)
    | (go_at_call_of 24 (a2); refine (HF.out _ _ _ (HLL.out _ hp14) (HOO.out _ hp14)).mono ?_; rintro e w15 ⟨rfl, hb15⟩; have hp15 := hp14.trans (hb15.mono hl14); have hl15 := hp15.size)
    | (go_at_call 44; refine (recordSameT _ _ _ _ _ _ (HRR.out _ hp15) (HLL.out _ hp15)).mono ?_; rintro e w16 ⟨rfl, hb16⟩; have hp16 := hp15.trans (hb16.mono hl15); have hl16 := hp16.size))
  have hd16 : Below w3.heap.size w3 w16 := hd6.trans (hp16.mono (by omega))
  have hf16 : Below w4.heap.size w4 w16 := hf6.trans (hp16.mono (by omega))
  obtain ⟨gz16, -, -⟩ := own_box hp16 (by omega) gz6
  go_upto_block 0 with (go_at_call 25; refine (spoil (w5.alloc (.cells #[.int .u8 X.kind, .slice a5 X.marks.length n5] 25)).heap.size _ _ w16 (ShC.of (fun b hb => hb.1) (HT6.out.same (.of_below hp16)))).mono ?_; rintro e w17 ⟨⟨u8, rfl⟩, hb17⟩)
  have hb17' : Below (w5.heap.size + 1) w16 w17 := hb17.mono (by simp)
  have hd17 : Below w3.heap.size w3 w17 := hd16.trans (hb17'.mono (by omega))
  have hf17 : Below w4.heap.size w4 w17 := hf16.trans (hb17'.mono (by omega))
  obtain ⟨gz17, -, -⟩ := own_box hb17' (by omega) gz16
  have hW17 : wBlt (Span w3.heap.size w4.heap.size) w17 [.int .u8 X.kind, .slice a4 X.marks.length n4] X := wBlt.stable _ _ _ _ _ (.of_below hf17) HX4.out
  obtain ⟨v17, e17, -, -, hs17⟩ := hW17
  simp only [List.cons.injEq, and_true, true_and] at e17
  subst e17
  have hlt : ∀ b off, a4 = some ⟨b, off, none⟩ → X.marks.length ≠ 0 → b < w4.heap.size := by
    intro b off hb hn
    obtain ⟨b', off', _, e, hS, -, -, -⟩ := RSl.at1 hs17.1 0 (by omega)
    rw [hb] at e
    simp only [Option.some.injEq, Addr.mk.injEq, and_true] at e
    rw [e.1]
    exact hS.2
  have hi17 : ShI w3.heap.size w17 (.slice a4 X.marks.length n4) X.marks.length := ShI.of (fun b hb => hb.1) hs17
  have Hlt := Lib.hid hlt
  clear hlt hs17 hb17
  go_wp2
  go_loopw [20] (fun i wr => ∃ m : Nat, m ≤ X.marks.length ∧ i = .int .i64 m ∧ Hid (wr.heap[w4.heap.size]? = some (.cells #[.int .u8 X.kind, .slice a4 X.marks.length n4] 25 (0, 0))) ∧ ShI w3.heap.size wr (.slice a4 X.marks.length n4) X.marks.length ∧ Below w3.heap.size w3 wr) (fun i _ => X.marks.length - (intOf i).toNat)
  case atStart => exact ⟨0, Nat.zero_le _, rfl, Lib.hid gz17, hi17, hd17⟩
  case round =>
    obtain ⟨m, hm, rfl, hbx, hsh, hdr⟩ := hrel
    obtain ⟨-, hcr, hfr⟩ := own_box (Below.refl _ _) (size_of_box hbx.out) hbx.out
    by_cases hml : m < X.marks.length
    · obtain ⟨a', cap', e', -, -, hx⟩ := id hsh
      simp only [Value.slice.injEq, true_and] at e'
      obtain ⟨rfl, rfl⟩ := e'
      obtain ⟨b, off, i0, rfl, hb3, hsf, hc⟩ := hx m hml
      have hne : b < w4.heap.size := Hlt.out b off rfl (by omega)
      have hf3 := hsf.frozen (off + m)
      clear hx
      go_wp2
      exact ⟨⟨m + 1, by omega, by go_num, Lib.hid ((Below.heap_setCell _ ⟨b, off + m, none⟩ _ _ (by simp; omega)).trans hbx.out), hsh.kin (Kin.setCell hc (.inl ⟨_, _, _, rfl, rfl⟩)), hdr.setCell (p := ⟨b, off + m, none⟩) hb3 _⟩, by simp [intOf]; omega⟩
    · have hqr : Below w.heap.size w wr := hq3.trans (hdr.mono hl3)
      go_wp2_with (go_at_call 24; refine (sameT _ _ _ _ _ _ (HR3.out.same (.of_below hdr)) (H.out.same (.of_below hqr))).mono ?_; rintro e w18 ⟨rfl, hb18⟩)
      go_ret
      exact ⟨rfl, hqr.trans (hb18.mono hqr.size)⟩
theorem law_tells (v u : Value) (l o : List Btc) (c kind bt k : Int) (w : World) (h : RBtcs Any w v l) (hu : RBtcs Any w u o) (_ : (Lit.int .i64 c).wf = true) (_ : (Lit.int .u8 kind).wf = true) (hbt : (Lit.int .i64 bt).wf = true) (hkk : (Lit.int .i64 k).wf = true) :
    Calls Try.prog 5 #[v, u, .int .i64 c, .int .u8 kind, .int .i64 bt, .int .i64 k] w fun e w' => e = .returned (.bool true) ∧ Below w.heap.size w w' := by
  cases hg : (great l || great o)
  · simp only [Bool.or_eq_false_iff] at hg
    exact tells_small Any v u l o c kind bt k w h hu hg.1 hg.2 (wf_i64 hbt) (wf_i64 hkk)
  · exact tells_great Any v u l o c kind bt k w h hu hg
end Go.Proofs.Ytkjgddcjhikdgaa
