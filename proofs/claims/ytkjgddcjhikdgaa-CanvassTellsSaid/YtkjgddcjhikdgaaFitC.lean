/- The contracts of canvass.fit and of the reference's Fit. -/
import Derived.Test.YtkjgddcjhikdgaaSlot
namespace Go.Proofs.Ytkjgddcjhikdgaa
open Go Go.RowKit Go.Shelf

/-- The answer of fit, out of the checks' answers and whether the manifests are equal. -/
def fit3 (ra rb : Int) (e : Bool) : Int := if ra = 0 then (if rb = 0 then (if e then 0 else 270) else rb) else ra
def fitI (a b : List Btc) (c kind : Int) : Int := fit3 (recCheck a c kind) (recCheck b c kind) (eqL eqSlot (maniL a) (maniL b))
set_option maxHeartbeats 1000000 in
theorem canvassFit (S T : Nat → Prop) (u v : Value) (a b : List Btc) (c kind : Int) (w : World) (hx : RBtcs S w u a) (hy : RBtcs T w v b) (hla : a.length ≤ 1000000) (hlb : b.length ≤ 1000000) :
    Calls Try.prog 90 #[u, v, .int .i64 c, .int .u8 kind] w fun e w' => e = .returned (.int .i64 (fitI a b c kind)) ∧ Below w.heap.size w w' := by
  have hA : ∀ W, Below w.heap.size w W → RBtcs S W u a := fun W hW => hx.same (.of_below hW)
  have hB : ∀ W, Below w.heap.size w W → RBtcs T W v b := fun W hW => hy.same (.of_below hW)
  have hCA : ∀ W, Below w.heap.size w W → Calls Try.prog 39 #[u, .int .i64 c, .int .u8 kind] W _ := fun W hW => recordCheck S u a c kind W (hA W hW)
  have hCB : ∀ W, Below w.heap.size w W → Calls Try.prog 39 #[v, .int .i64 c, .int .u8 kind] W _ := fun W hW => recordCheck T v b c kind W (hB W hW)
  have hE : ∀ W p q, RSl (From 0) 2 dSlot W p (maniL a) → RSl (From 0) 2 dSlot W q (maniL b) → Calls Try.prog 131 #[p, q] W _ := fun W p q hp hq => slotsEqual (From 0) (From 0) p q _ _ W hp hq
  obtain ⟨a1, cap1, rfl, -, -⟩ := RSl.shape hx
  obtain ⟨a2, cap2, rfl, -, -⟩ := RSl.shape hy
  have hr : fitI a b c kind = fit3 (recCheck a c kind) (recCheck b c kind) (eqL eqSlot (maniL a) (maniL b)) := rfl
  generalize recCheck a c kind = ra at *
  generalize recCheck b c kind = rb at *
  generalize eqL eqSlot (maniL a) (maniL b) = eq at *
  generalize fitI a b c kind = I at *
  subst hr
  have hml : (maniL a).length ≤ 140737488355328 := by simp [maniL]; omega
  have hml2 : (maniL b).length ≤ 140737488355328 := by simp [maniL]; omega
  have HA := Lib.hid hA; have HB := Lib.hid hB; have HCA := Lib.hid hCA; have HCB := Lib.hid hCB; have HE := Lib.hid hE; have Hml := Lib.hid hml; have Hml2 := Lib.hid hml2
  clear hA hB hCA hCB hE hx hy hml hml2
  go_enter Try.func90, Try.ntmps90
  go_wp2
  go_loopw [16] (fun i wr => ∃ k : Nat, k ≤ 2 ∧ i = .int .i64 k ∧ Hid ((1 ≤ k → ra = 0) ∧ (2 ≤ k → rb = 0)) ∧ Hid (wr.heap[w.heap.size]? = some (.cells #[.slice a1 a.length cap1, .slice a2 b.length cap2] 22 (0, 0))) ∧ Below w.heap.size w wr) (fun i _ => 2 - (intOf i).toNat)
  case atStart => exact ⟨0, Nat.zero_le _, rfl, Lib.hid ⟨by omega, by omega⟩, Lib.hid (box_new _ _), below_new _ _⟩
  case round =>
    obtain ⟨k, hk, rfl, hg, hbx, hb⟩ := hrel
    obtain ⟨-, hcr, hfr⟩ := own_box (Below.refl _ _) (size_of_box hbx.out) hbx.out
    have hlw := size_of_box hbx.out
    have hk3 : k = 0 ∨ k = 1 ∨ k = 2 := by omega
    rcases hk3 with rfl | rfl | rfl
    · by_cases h0 : ra = 0
      · subst h0
        have hz0 : ((0 : Int) != 0) = false := rfl
        go_wp2_with (go_at_call 39; refine (HCA.out _ hb).mono ?_; rintro e w1 ⟨rfl, hb1⟩; obtain ⟨gx1, hcx1, hfx1⟩ := own_box hb1 hlw hbx.out)
        exact ⟨⟨1, by omega, by go_num, Lib.hid ⟨by simp, by omega⟩, Lib.hid gx1, hb.trans (hb1.mono hb.size)⟩, by simp [intOf]⟩
      · have hz0 : (ra != 0) = true := by simpa using h0
        have H0 := Lib.hid h0; clear h0
        go_wp2_with (go_at_call 39; refine (HCA.out _ hb).mono ?_; rintro e w1 ⟨rfl, hb1⟩; obtain ⟨gx1, hcx1, hfx1⟩ := own_box hb1 hlw hbx.out)
        go_ret
        exact ⟨ret_int (by rw [fit3, if_neg H0.out]), hb.trans (hb1.mono hb.size)⟩
    · obtain rfl := hg.out.1 (by omega)
      by_cases h0 : rb = 0
      · subst h0
        have hz0 : ((0 : Int) != 0) = false := rfl
        go_wp2_with (go_at_call 39; refine (HCB.out _ hb).mono ?_; rintro e w1 ⟨rfl, hb1⟩; obtain ⟨gx1, hcx1, hfx1⟩ := own_box hb1 hlw hbx.out)
        exact ⟨⟨2, by omega, by go_num, Lib.hid ⟨by simp, by simp⟩, Lib.hid gx1, hb.trans (hb1.mono hb.size)⟩, by simp [intOf]⟩
      · have hz0 : (rb != 0) = true := by simpa using h0
        have H0 := Lib.hid h0; clear h0
        go_wp2_with (go_at_call 39; refine (HCB.out _ hb).mono ?_; rintro e w1 ⟨rfl, hb1⟩; obtain ⟨gx1, hcx1, hfx1⟩ := own_box hb1 hlw hbx.out)
        go_ret
        exact ⟨ret_int (by rw [fit3, if_pos rfl, if_neg H0.out]), hb.trans (hb1.mono hb.size)⟩
    · obtain rfl := hg.out.1 (by omega)
      obtain rfl := hg.out.2 (by omega)
      have hls := hb.size
      cases eq
      all_goals
        go_wp2_with (first
          | (go_at_call_of 33 (a1); refine (manifest S _ a _ (HA.out _ hb) hla).mono ?_; rintro e w1 ⟨v1, rfl, ho1, hb1⟩; obtain ⟨ax1, cx1, rfl⟩ := id (Own.shape ho1); have hq1 := hb.trans (hb1.mono hls); have hl1 := hq1.size; have Ho1 := Lib.hid ho1; clear ho1)
          | (go_at_call 33; refine (manifest T _ b _ (HB.out _ hq1) hlb).mono ?_; rintro e w2 ⟨v2, rfl, ho2, hb2⟩; obtain ⟨ax2, cx2, rfl⟩ := id (Own.shape ho2); have hq2 := hq1.trans (hb2.mono hl1); have hl2 := hq2.size; have Ho2 := Lib.hid ho2; clear ho2)
          | (go_at_call 131; refine (HE.out _ _ _ (RSl.mono (fun _ _ _ h => h) (fun _ _ => Nat.zero_le _) (RSl.same (dSlot.stable _) (.of_below hb2) (Own.rsl Ho1.out Hml.out))) (RSl.mono (fun _ _ _ h => h) (fun _ _ => Nat.zero_le _) (Own.rsl Ho2.out Hml2.out))).mono ?_; rintro e w3 ⟨rfl, hb3⟩))
        go_ret
        exact ⟨ret_int (by rfl), hq2.trans (hb3.mono hl2)⟩
set_option maxHeartbeats 1000000 in
theorem refFit (S T : Nat → Prop) (u v : Value) (a b : List Btc) (c kind : Int) (w : World) (hx : RBtcs S w u a) (hy : RBtcs T w v b) (hla : a.length ≤ 1000000) (hlb : b.length ≤ 1000000) :
    Calls Try.prog 91 #[u, v, .int .i64 c, .int .u8 kind] w fun e w' => e = .returned (.int .i64 (fitI a b c kind)) ∧ Below w.heap.size w w' := by
  have hA : ∀ W, Below w.heap.size w W → RBtcs S W u a := fun W hW => hx.same (.of_below hW)
  have hB : ∀ W, Below w.heap.size w W → RBtcs T W v b := fun W hW => hy.same (.of_below hW)
  have hCA := refCheck S u a c kind w hx
  have hCB : ∀ W, Below w.heap.size w W → Calls Try.prog 40 #[v, .int .i64 c, .int .u8 kind] W _ := fun W hW => refCheck T v b c kind W (hB W hW)
  have hE : ∀ W p q, RSl (From 0) 2 dSlot W p (maniL a) → RSl (From 0) 2 dSlot W q (maniL b) → Calls Try.prog 32 #[p, q] W _ := fun W p q hp hq => sameSlots (From 0) (From 0) p q _ _ W hp hq
  obtain ⟨a1, cap1, rfl, -, -⟩ := RSl.shape hx
  obtain ⟨a2, cap2, rfl, -, -⟩ := RSl.shape hy
  have hr : fitI a b c kind = fit3 (recCheck a c kind) (recCheck b c kind) (eqL eqSlot (maniL a) (maniL b)) := rfl
  generalize recCheck a c kind = ra at *
  generalize recCheck b c kind = rb at *
  generalize eqL eqSlot (maniL a) (maniL b) = eq at *
  generalize fitI a b c kind = I at *
  subst hr
  have hml : (maniL a).length ≤ 140737488355328 := by simp [maniL]; omega
  have hml2 : (maniL b).length ≤ 140737488355328 := by simp [maniL]; omega
  have HA := Lib.hid hA; have HB := Lib.hid hB; have HCA := Lib.hid hCA; have HCB := Lib.hid hCB; have HE := Lib.hid hE; have Hml := Lib.hid hml; have Hml2 := Lib.hid hml2
  clear hA hB hCA hCB hE hx hy hml hml2
  by_cases h0 : ra = 0
  case neg =>
    have hz0 : (ra != 0) = true := by simpa using h0
    have H0 := Lib.hid h0; clear h0
    go_enter Try.func91, Try.ntmps91
    go_wp2_with (go_at_call 40; refine HCA.out.mono ?_; rintro e w1 ⟨rfl, hb1⟩)
    go_ret
    exact ⟨ret_int (by rw [fit3, if_neg H0.out]), hb1⟩
  subst h0
  have hz0 : ((0 : Int) != 0) = false := rfl
  by_cases h1 : rb = 0
  case neg =>
    have hz1 : (rb != 0) = true := by simpa using h1
    have H1 := Lib.hid h1; clear h1
    go_enter Try.func91, Try.ntmps91
    go_wp2_with (first
      | (go_at_call_of 40 (a1); refine HCA.out.mono ?_; rintro e w1 ⟨rfl, hb1⟩)
      | (go_at_call 40; refine (HCB.out _ hb1).mono ?_; rintro e w2 ⟨rfl, hb2⟩))
    go_ret
    exact ⟨ret_int (by rw [fit3, if_pos rfl, if_neg H1.out]), hb1.trans (hb2.mono hb1.size)⟩
  subst h1
  cases eq
  all_goals
    go_enter Try.func91, Try.ntmps91
    go_wp2_with (first
      | (go_at_call_of 40 (a1); refine HCA.out.mono ?_; rintro e w1 ⟨rfl, hb1⟩)
      | (go_at_call 40; refine (HCB.out _ hb1).mono ?_; rintro e w2 ⟨rfl, hb2⟩; have hb := hb1.trans (hb2.mono hb1.size); have hls := hb.size)
      | (go_at_call_of 34 (a1); refine (refManifest S _ a _ (HA.out _ hb) hla).mono ?_; rintro e w3 ⟨v1, rfl, ho1, hb3⟩; obtain ⟨ax1, cx1, rfl⟩ := id (Own.shape ho1); have hq1 := hb.trans (hb3.mono hls); have hl1 := hq1.size; have Ho1 := Lib.hid ho1; clear ho1)
      | (go_at_call 34; refine (refManifest T _ b _ (HB.out _ hq1) hlb).mono ?_; rintro e w4 ⟨v2, rfl, ho2, hb4⟩; obtain ⟨ax2, cx2, rfl⟩ := id (Own.shape ho2); have hq2 := hq1.trans (hb4.mono hl1); have hl2 := hq2.size; have Ho2 := Lib.hid ho2; clear ho2)
      | (go_at_call 32; refine (HE.out _ _ _ (RSl.mono (fun _ _ _ h => h) (fun _ _ => Nat.zero_le _) (RSl.same (dSlot.stable _) (.of_below hb4) (Own.rsl Ho1.out Hml.out))) (RSl.mono (fun _ _ _ h => h) (fun _ _ => Nat.zero_le _) (Own.rsl Ho2.out Hml2.out))).mono ?_; rintro e w5 ⟨rfl, hb5⟩))
    go_ret
    exact ⟨ret_int (by rfl), hq2.trans (hb5.mono hl2)⟩
end Go.Proofs.Ytkjgddcjhikdgaa
