/- The law CanvassFits returns true whatever the input, and every argument reads behind the call as it read before. No condition. -/
import Derived.Test.YtkjgddcjhikdgaaGCan
import Derived.Test.YtkjgddcjhikdgaaGFoot
import Derived.Test.YtkjgddcjhikdgaaGTell
import Derived.Test.YtkjgddcjhikdgaaGProf
import Derived.Test.YtkjgddcjhikdgaaRows
import Derived.Deep.RegionHeld3
import Derived.Deep.CutRange
import Derived.WalkKit
import Derived.ProofKit
import Derived.OpenShut
import Derived.ShutString
import Derived.ChangeOld
import Derived.Below

/- The contract of the reference's Reconcile. -/
namespace Go.Proofs.Ytkjgddcjhikdgaa
open Go Go.RowKit Go.Shelf Go.Maps Go.WideMaps

set_option maxHeartbeats 1000000 in
theorem refReco_bad (S : Nat → Prop) (u v : Value) (m : List Slot) (l : List Btc) (c kind voted : Int) (w : World) (hx : RSl S 2 dSlot w u m) (hy : RBtcs S w v l) (hbad : ¬ (chkS m = 0 ∧ recCheck l c kind = 0 ∧ 0 ≤ voted)) :
    Calls Try.prog 29 #[u, v, .int .i64 c, .int .u8 kind, .int .i64 voted] w (RecoGives m l c kind voted w) := by
  have hA := refCheckS S u m w hx
  have hB := fun W (hW : Below w.heap.size w W) => refCheck S v l c kind W (hy.same (.of_below hW))
  have hG := fun w' i h1 h2 (hb : Below w.heap.size w w') => RecoGives.none (m := m) (l := l) (c := c) (kind := kind) (voted := voted) (w := w) (w' := w') (i := i) h1 h2 hb
  obtain ⟨a1, cap1, rfl, -, -⟩ := RSl.shape hx
  obtain ⟨a2, cap2, rfl, -, -⟩ := RSl.shape hy
  have hr : recoI m l c kind voted = if chkS m = 0 then (if recCheck l c kind = 0 then (if voted < 0 then 2 else 0) else recCheck l c kind) else chkS m := rfl
  generalize chkS m = ra at *
  generalize recCheck l c kind = rb at *
  generalize recoI m l c kind voted = I at *
  have HA := Lib.hid hA; have HB := Lib.hid hB; have HG := Lib.hid hG; have Hr := Lib.hid hr; clear hA hB hG hr hx hy
  by_cases h0 : ra = 0
  case neg =>
    have hz0 : (ra != 0) = true := by simpa using h0
    have hI := Hr.out
    rw [if_neg h0] at hI
    have HI := Lib.hid hI; have H0 := Lib.hid h0; clear h0 hbad hI
    go_enter Try.func29, Try.ntmps29
    go_wp2_with (go_at_call 31; refine HA.out.mono ?_; rintro e w1 ⟨rfl, hb1⟩)
    go_ret2
    exact HG.out _ _ HI.out H0.out hb1
  subst h0
  have hz0 : ((0 : Int) != 0) = false := rfl
  by_cases h1 : rb = 0
  case neg =>
    have hz1 : (rb != 0) = true := by simpa using h1
    have hI := Hr.out
    rw [if_pos rfl, if_neg h1] at hI
    have HI := Lib.hid hI; have H1 := Lib.hid h1; clear h1 hbad hI
    go_enter Try.func29, Try.ntmps29
    go_wp2_with (first
      | (go_at_call 31; refine HA.out.mono ?_; rintro e w1 ⟨rfl, hb1⟩)
      | (go_at_call 40; refine (HB.out _ hb1).mono ?_; rintro e w2 ⟨rfl, hb2⟩))
    go_ret2
    exact HG.out _ _ HI.out H1.out (hb1.trans (hb2.mono hb1.size))
  subst h1
  have hv : voted < 0 := by omega
  have hI := Hr.out
  rw [if_pos rfl, if_pos rfl, if_pos hv] at hI
  have HI := Lib.hid hI; clear hbad hI
  go_enter Try.func29, Try.ntmps29
  go_wp2_with (first
    | (go_at_call 31; refine HA.out.mono ?_; rintro e w1 ⟨rfl, hb1⟩)
    | (go_at_call 40; refine (HB.out _ hb1).mono ?_; rintro e w2 ⟨rfl, hb2⟩))
  go_ret2
  exact HG.out _ _ HI.out (by omega) (hb1.trans (hb2.mono hb1.size))

theorem refOf2 (S : Nat → Prop) (v : Value) (m : List Slot) (nm : ByteArray) (w : World) (h : RSl S 2 dSlot w v m) :
    Calls Try.prog 78 #[v, .string nm] w fun e w' => e = .returned (.tuple #[.agg #[.string ((ofS m nm).getD zS).name, .int .i64 ((ofS m nm).getD zS).many], .bool (ofS m nm).isSome]) ∧ Below w.heap.size w w' := refOf S v m nm w h
set_option maxHeartbeats 4000000 in
set_option maxRecDepth 100000 in
theorem refReco_main (S : Nat → Prop) (u v : Value) (m : List Slot) (l : List Btc) (c kind voted : Int) (w : World) (hx : RSl S 2 dSlot w u m) (hy : RBtcs S w v l) (hlm : m.length ≤ 1000) (hsm : Small l) (hvw : (Lit.int .i64 voted).wf = true)
    (k1 : chkS m = 0) (k2 : recCheck l c kind = 0) (k3 : 0 ≤ voted) :
    Calls Try.prog 29 #[u, v, .int .i64 c, .int .u8 kind, .int .i64 voted] w (RecoGives m l c kind voted w) := by
  have hA := refCheckS S u m w hx
  have hB := fun W (hW : Below w.heap.size w W) => refCheck S v l c kind W (hy.same (.of_below hW))
  have hM := fun W (hW : Below w.heap.size w W) => refManifest S v l W (hy.same (.of_below hW)) hsm.1
  rw [k1] at hA
  rw [k2] at hB
  have hap := apart_of k2
  have hG := fun w' p lo ho (hlo : w.heap.size ≤ lo) (hb : Below w.heap.size w w') => RecoGives.some (m := m) (l := l) (c := c) (kind := kind) (voted := voted) (w := w) (w' := w') (v := p) (lo := lo) k1 k2 k3 ho hlo hb
  obtain ⟨a1, cap1, rfl, -, -⟩ := RSl.shape hx
  obtain ⟨a2, cap2, rfl, -, -⟩ := RSl.shape hy
  have hl1 := hsm.1
  have hml : (maniL l).length = l.length := by simp [maniL]
  have HA := Lib.hid hA; have HB := Lib.hid hB; have HM := Lib.hid hM; have HG := Lib.hid hG; have HX := Lib.hid hx; have HY := Lib.hid hy; have Hsm := Lib.hid hsm; have Hvw := Lib.hid hvw; have Hap := Lib.hid hap; have Hml := Lib.hid hml
  have hv0 := wf_i64 hvw
  clear hA hB hM hG hx hy hsm hvw k1 k2 hap hml
  have hz0 : ((0 : Int) != 0) = false := rfl
  go_enter Try.func29, Try.ntmps29
  go_wp2_with (first
    | (go_at_call 31; refine HA.out.mono ?_; rintro e w1 ⟨rfl, hb1⟩)
    | (go_at_call 40; refine (HB.out _ hb1).mono ?_; rintro e w2 ⟨rfl, hb2⟩; have hq2 := hb1.trans (hb2.mono hb1.size); have hl2 := hq2.size)
    | (go_at_call 34; refine (HM.out _ hq2).mono ?_; rintro e w3 ⟨v3, rfl, ho3, hb3⟩; have hq3 := hq2.trans (hb3.mono hl2); have hl3 := hq3.size; have hr3 := RSl.mono (T := From 0) (fun _ _ _ h => h) (fun _ _ => Nat.zero_le _) (Own.rsl ho3 (by rw [Hml.out]; omega)); obtain ⟨ao, co, e3⟩ := id (Own.shape ho3); rw [Hml.out] at e3; subst e3; have HO := Lib.hid hr3; clear ho3 hr3))
  have hX : ∀ W, Below w3.heap.size w3 W → RSl S 2 dSlot W (.slice a1 m.length cap1) m := fun W hW => RSl.same (dSlot.stable _) (.of_below hW) (RSl.same (dSlot.stable _) (.of_below hq3) HX.out)
  have hO : ∀ W, Below w3.heap.size w3 W → RSl (From 0) 2 dSlot W (.slice ao l.length co) (maniL l) := fun W hW => RSl.same (dSlot.stable _) (.of_below hW) HO.out
  have HXX := Lib.hid hX; have HOO := Lib.hid hO
  clear hX hO
  go_loopw [14, 15] (fun s i wr => ∃ (k : Nat) (a : Option Addr) (n cp : Nat), k ≤ m.length ∧ i = .int .i64 k ∧ s = .slice a n cp ∧ Hid (Own w3.heap.size 113 4 dFnd wr (.slice a n cp) ((m.take k).flatMap (fndM l))) ∧ Below w3.heap.size w3 wr) (fun _ i _ => m.length - (intOf i).toNat)
  case atStart => exact ⟨0, none, 0, 0, Nat.zero_le _, rfl, rfl, Lib.hid (Own.nil _ _ _ _ _), Below.refl _ _⟩
  case round =>
    obtain ⟨k, ax, n, cp, hk, rfl, rfl, hown, hb⟩ := hrel
    have hz := hb.size
    by_cases hlt : k < m.length
    · obtain ⟨b, off, c0, d0, rfl, hS, hbw, hc, hd, hx⟩ := RSl.at2 (HXX.out _ (Below.refl _ _)) k hlt
      obtain ⟨⟨rfl, rfl⟩, hnl, hwf⟩ := hx.open
      have hcr := (Same.of_below (S := Any) hb).cell trivial hc
      have hdr := (Same.of_below (S := Any) hb).cell trivial hd
      have hfs := flat_succ (fndM l) hlt
      have hfm : fndM l m[k] = match lastL l m[k].name.data.toList with | none => [⟨1, m[k].name, m[k].many, 0⟩] | some n => if n = m[k].many then [] else [⟨2, m[k].name, m[k].many, n⟩] := rfl
      have hll := flat_len (fndM l) (fndM_len l) (m.take k)
      have hll2 : ((m.take k).flatMap (fndM l)).length ≤ 100000000 := by rw [List.length_take] at hll; omega
      have hlo := fun j hj => (Own.lt hown.out j hj).1
      have hnb : some b ≠ (Value.slice ax n cp).ownBlock := fun he => by have := hlo b he.symm; omega
      obtain ⟨Lk, hLk⟩ : ∃ Lk, Lk = (m.take k).flatMap (fndM l) := ⟨_, rfl⟩
      rw [← hLk] at hfs hll hll2 hown
      clear hLk
      have hof := refOf2 (From 0) _ (maniL l) m[k].name wr (HOO.out _ hb)
      obtain ⟨hm1, hm2⟩ := ofS_mani Hap.out m[k].name
      rw [hm1] at hof
      obtain ⟨O, hO⟩ : ∃ O, O = (ofS (maniL l) m[k].name).getD zS := ⟨_, rfl⟩
      rw [← hO] at hof hm2
      have Hfs := Lib.hid hfs; have Hfm := Lib.hid hfm; have Hll2 := Lib.hid hll2; have Hlo := Lib.hid hlo; have Hnb := Lib.hid hnb; have Hwf := Lib.hid hwf; have Hnl := Lib.hid hnl
      have hwm := wf_i64 hwf
      clear hfs hfm hll hll2 hlo hnb hwf hx hm1 hO hc hd
      cases hla : lastL l m[k].name.data.toList with
      | none =>
        rw [hla] at hof
        have hfm := Hfm.out
        rw [hla] at hfm
        simp only at hfm
        have Hfm := Lib.hid hfm; have Hof := Lib.hid hof
        clear hla hfm hof hm2
        go_upto_region 16 with (go_at_call 78; refine Hof.out.mono ?_; rintro e w4 ⟨rfl, hb4⟩; have hz4 := hb4.size; have hc4 := (Same.of_below (S := Any) hb4).cell trivial hcr; have hd4 := (Same.of_below (S := Any) hb4).cell trivial hdr; have hbw4 : b < w4.heap.size := (by omega))
        have hb5 : Below wr.heap.size wr (w4.alloc (.cells #[.string O.name, .int .i64 O.many] 95)) := hb4.alloc hz4 _
        obtain ⟨w5, hw5⟩ : ∃ w5, w5 = (w4.alloc (.cells #[.string O.name, .int .i64 O.many] 95)) := ⟨_, rfl⟩
        rw [← hw5] at hb5 ⊢
        clear hw5 hc4 hd4
        have hc5 := (Same.of_below (S := Any) hb5).cell trivial hcr
        have hd5 := (Same.of_below (S := Any) hb5).cell trivial hdr
        have hz5 := hb5.size
        have hbw5 : b < w5.heap.size := by omega
        have hnw : Below wr.heap.size wr (w5.drew.alloc (.cells #[.int .u8 1, .string m[k].name, .int .i64 m[k].many, .int .i64 0] 113)) := (Below.drew hb5).alloc (by simp; omega) _
        have hOw := Own.below (S := fun _ => False) (dFnd.stable _) hown.out hnw
        have hu : RSl (From 0) 4 dFnd (w5.drew.alloc (.cells #[.int .u8 1, .string m[k].name, .int .i64 m[k].many, .int .i64 0] 113)) (.slice (some ⟨w5.heap.size, 0, none⟩) 1 1) [(⟨1, m[k].name, m[k].many, 0⟩ : Fnd)] := RSl.built (cs := [.int .u8 1, .string m[k].name, .int .i64 m[k].many, .int .i64 0]) (Nat.zero_le _) (box_new w5.drew _) rfl ⟨rfl, (show (Lit.int .u8 1).wf = true by decide), Hnl.out, Hwf.out, (show (Lit.int .i64 0).wf = true by decide)⟩
        have HOw := Lib.hid hOw; have Hu := Lib.hid hu; have Hnw := Lib.hid hnw
        clear hOw hu hnw
        go_region_held3 (fun w' => w'.cell? ⟨b, off + k * 2, none⟩ = some (.string m[k].name) ∧ w'.cell? ⟨b, off + k * 2 + 1, none⟩ = some (.int .i64 m[k].many))
            (first
              | go_keep
              | (go_split_ands
                 refine ⟨?_, ?_⟩
                 · exact hg.cell (by assumption) Hnb.out
                 · exact hg.cell (by assumption) Hnb.out))
            ((refine step_app _ Try.infoFnd rfl rfl Try.underlying41 ⟨rfl, by omega, by omega⟩ dFnd.one (dFnd.stable (fun _ => False)) w3.heap.size HOw.out rfl Hu.out rfl (by have := Hll2.out; simp only [List.length_cons, List.length_nil]; omega) (by simp; omega) ?_; intro a7 c7 w7 hg hat ho1))
        have ho2 := ho1 (fun _ _ h => h.elim)
        have hb7 := (hb.trans (Hnw.out.mono hz)).grown hg (by simp; omega) Hlo.out
        have Ho2 := Lib.hid ho2; have Hg := Lib.hid hg; have Hat := Lib.hid hat; clear ho1 ho2 hg hat
        go_wp2
        exact ⟨⟨k + 1, a7, _, c7, by omega, by go_num, rfl, Lib.hid (by have h3 := Ho2.out; rw [List.length_append] at h3; rw [Hfs.out, Hfm.out]; exact h3), hb7⟩, by simp [intOf]; omega⟩
      | some q =>
        rw [hla] at hof
        have hqb := lastL_wf Hsm.out hla
        have hOq := hm2 q hla
        have hfm := Hfm.out
        rw [hla] at hfm
        simp only at hfm
        have Hqw : Hid ((Lit.int .i64 q).wf = true) := Lib.hid (by obtain ⟨q', rfl⟩ : ∃ q' : Nat, q = q' := ⟨q.toNat, by omega⟩; exact wf_len (by omega))
        rw [hOq] at hof
        have Hof := Lib.hid hof
        clear hla hof hm2 hOq
        by_cases hqm : q = m[k].many
        · rw [if_pos hqm] at hfm
          have Hfm := Lib.hid hfm
          have hne : (q != m[k].many) = false := by simpa using hqm
          clear hfm hqm
          go_upto_region 17 with (go_at_call 78; refine Hof.out.mono ?_; rintro e w4 ⟨rfl, hb4⟩; have hz4 := hb4.size; have hc4 := (Same.of_below (S := Any) hb4).cell trivial hcr; have hd4 := (Same.of_below (S := Any) hb4).cell trivial hdr)
          have hb5 : Below wr.heap.size wr (w4.alloc (.cells #[.string O.name, .int .i64 q] 95)) := hb4.alloc hz4 _
          have hd5 := (Same.of_below (S := Any) hb5).cell trivial hdr
          have e1 := fun p => cell_ext (w := (w4.alloc (.cells #[.string O.name, .int .i64 q] 95))) hd5 p
          have e2 := fun p => cell_ext (w := (w4.alloc (.cells #[.string O.name, .int .i64 q] 95))) (a := ⟨w4.heap.size, 1, none⟩) (v := .int .i64 q) (by obtain ⟨-, h, -⟩ := own_box (Below.refl _ _) (size_of_box (box_new w4 (.cells #[.string O.name, .int .i64 q] 95))) (box_new w4 (.cells #[.string O.name, .int .i64 q] 95)); exact h 1) p
          refine wp_region_ext (by kernel_rfl) (by kernel_rfl) ?_
          repeat (go_big_quiet_step (fail))
          refine wpQuiet_nil ?_
          intro w6 hw'
          have hb6 : Below wr.heap.size wr w6 := by obtain ⟨p, rfl⟩ := hw'; exact hb5.trans ((below_ext _ p).mono hb5.size)
          clear hw' e1 e2
          have ho6 := Own.below (S := fun _ => False) (dFnd.stable _) hown.out hb6
          have Ho6 := Lib.hid ho6; clear ho6
          go_wp2
          exact ⟨⟨k + 1, ax, n, cp, by omega, by go_num, rfl, Lib.hid (by rw [Hfs.out, Hfm.out, List.append_nil]; exact Ho6.out), hb.trans (hb6.mono hz)⟩, by simp [intOf]; omega⟩
        · rw [if_neg hqm] at hfm
          have Hfm := Lib.hid hfm
          have hne : (q != m[k].many) = true := by simpa using hqm
          clear hfm hqm
          go_upto_region 17 with (go_at_call 78; refine Hof.out.mono ?_; rintro e w4 ⟨rfl, hb4⟩; have hz4 := hb4.size; have hc4 := (Same.of_below (S := Any) hb4).cell trivial hcr; have hd4 := (Same.of_below (S := Any) hb4).cell trivial hdr)
          have hb5 : Below wr.heap.size wr (w4.alloc (.cells #[.string O.name, .int .i64 q] 95)) := hb4.alloc hz4 _
          have hd5 := (Same.of_below (S := Any) hb5).cell trivial hdr
          have hq5 : (w4.alloc (.cells #[.string O.name, .int .i64 q] 95)).cell? ⟨w4.heap.size, 1, none⟩ = some (.int .i64 q) := by obtain ⟨-, h, -⟩ := own_box (Below.refl _ _) (size_of_box (box_new w4 (.cells #[.string O.name, .int .i64 q] 95))) (box_new w4 (.cells #[.string O.name, .int .i64 q] 95)); exact h 1
          have e1 := fun p => cell_ext (w := (w4.alloc (.cells #[.string O.name, .int .i64 q] 95))) hd5 p
          have e2 := fun p => cell_ext (w := (w4.alloc (.cells #[.string O.name, .int .i64 q] 95))) hq5 p
          have Hq5 := Lib.hid hq5; clear hq5
          refine wp_region_ext (by kernel_rfl) (by kernel_rfl) ?_
          repeat (go_big_quiet_step (fail))
          refine wpQuiet_nil ?_
          intro w6 hw'
          have hb6 : Below wr.heap.size wr w6 := by obtain ⟨p, rfl⟩ := hw'; exact hb5.trans ((below_ext _ p).mono hb5.size)
          have hc6 := (Same.of_below (S := Any) hb6).cell trivial hcr
          have hd6 := (Same.of_below (S := Any) hb6).cell trivial hdr
          have hq6 : w6.cell? ⟨w4.heap.size, 1, none⟩ = some (.int .i64 q) := by obtain ⟨p, rfl⟩ := hw'; exact cell_ext Hq5.out p
          have hz6 := hb6.size
          have hlt6 : w4.heap.size < w6.heap.size := lt_of_cell hq6
          have hbw6 : b < w6.heap.size := by omega
          have hnb2 : some w4.heap.size ≠ (Value.slice ax n cp).ownBlock := fun he => by have := (Own.lt hown.out _ he.symm).2; omega
          have Hnb2 := Lib.hid hnb2
          clear hw' e1 e2 hd5 hc4 hd4 hnb2
          go_upto_region 18 with (fail)
          have hnw : Below wr.heap.size wr (w6.drew.alloc (.cells #[.int .u8 2, .string m[k].name, .int .i64 m[k].many, .int .i64 q] 113)) := (Below.drew hb6).alloc (by simp; omega) _
          have hOw := Own.below (S := fun _ => False) (dFnd.stable _) hown.out hnw
          have hu : RSl (From 0) 4 dFnd (w6.drew.alloc (.cells #[.int .u8 2, .string m[k].name, .int .i64 m[k].many, .int .i64 q] 113)) (.slice (some ⟨w6.heap.size, 0, none⟩) 1 1) [(⟨2, m[k].name, m[k].many, q⟩ : Fnd)] := RSl.built (cs := [.int .u8 2, .string m[k].name, .int .i64 m[k].many, .int .i64 q]) (Nat.zero_le _) (box_new w6.drew _) rfl ⟨rfl, (show (Lit.int .u8 2).wf = true by decide), Hnl.out, Hwf.out, Hqw.out⟩
          have HOw := Lib.hid hOw; have Hu := Lib.hid hu; have Hnw := Lib.hid hnw
          clear hOw hu hnw
          go_region_held3 (fun w' => w'.cell? ⟨b, off + k * 2, none⟩ = some (.string m[k].name) ∧ w'.cell? ⟨b, off + k * 2 + 1, none⟩ = some (.int .i64 m[k].many) ∧ w'.cell? ⟨w4.heap.size, 1, none⟩ = some (.int .i64 q))
            (first
              | go_keep
              | (go_split_ands
                 refine ⟨?_, ?_, ?_⟩
                 · exact hg.cell (by assumption) Hnb.out
                 · exact hg.cell (by assumption) Hnb.out
                 · exact hg.cell (by assumption) Hnb2.out))
            ((refine step_app _ Try.infoFnd rfl rfl Try.underlying41 ⟨rfl, by omega, by omega⟩ dFnd.one (dFnd.stable (fun _ => False)) w3.heap.size HOw.out rfl Hu.out rfl (by have := Hll2.out; simp only [List.length_cons, List.length_nil]; omega) (by simp; omega) ?_; intro a7 c7 w7 hg hat ho1))
          have ho2 := ho1 (fun _ _ h => h.elim)
          have hb7 := (hb.trans (Hnw.out.mono hz)).grown hg (by simp; omega) Hlo.out
          have Ho2 := Lib.hid ho2; have Hg := Lib.hid hg; have Hat := Lib.hid hat; clear ho1 ho2 hg hat
          go_wp2
          exact ⟨⟨k + 1, a7, _, c7, by omega, by go_num, rfl, Lib.hid (by have h3 := Ho2.out; rw [List.length_append] at h3; rw [Hfs.out, Hfm.out]; exact h3), hb7⟩, by simp [intOf]; omega⟩
    · have hk' : k = m.length := by omega
      subst hk'
      have hol := hown.out
      rw [List.take_length] at hol
      have hlenM := flat_len (fndM l) (fndM_len l) m
      obtain ⟨LM, hLM⟩ : ∃ LM, LM = m.flatMap (fndM l) := ⟨_, rfl⟩
      rw [← hLM] at hol hlenM
      have Hol := Lib.hid hol; have HLM := Lib.hid hLM
      clear hol hown hLM
      go_wp2
      obtain ⟨wa, rfl⟩ : ∃ wa, wa = wr := ⟨_, rfl⟩
      go_loopw [14, 18, 19] (fun s al i wr => ∃ (k : Nat) (a : Option Addr) (n cp : Nat) (A : Int), k ≤ l.length ∧ i = .int .i64 k ∧ s = .slice a n cp ∧ al = .int .i64 A ∧ Hid (A = allN (l.take k)) ∧ 0 ≤ A ∧ A ≤ 1000000000000 ∧
        Hid (Own w3.heap.size 113 4 dFnd wr (.slice a n cp) (LM ++ (l.take k).flatMap (fndX m))) ∧ Below w3.heap.size w3 wr) (fun _ _ i _ => l.length - (intOf i).toNat)
      case atStart => exact ⟨0, ax, n, cp, 0, Nat.zero_le _, rfl, rfl, rfl, Lib.hid rfl, by omega, by omega, Lib.hid (by simpa using Hol.out), hb⟩
      case round =>
        clear Hol hb hz
        obtain ⟨k, ax, n, cp, A, hk, rfl, rfl, rfl, hA, hA0, hA1, hown, hb⟩ := hrel
        have hz := hb.size
        by_cases hlt : k < l.length
        · have hlt2 : k < (maniL l).length := by rw [Hml.out]; exact hlt
          obtain ⟨b, off, c0, d0, rfl, hS, hbw, hc, hd, hx⟩ := RSl.at2 (HOO.out _ (Below.refl _ _)) k hlt2
          have hmk : (maniL l)[k] = ⟨l[k].name, (l[k].blts.length : Int)⟩ := by simp [maniL]
          rw [hmk] at hx
          obtain ⟨⟨rfl, rfl⟩, hnl, hwf⟩ := hx.open
          simp only at hnl hwf
          have hbl : l[k].blts.length ≤ 1000000 := (Hsm.out.2 _ (List.getElem_mem hlt)).1
          have hcr := (Same.of_below (S := Any) hb).cell trivial hc
          have hdr := (Same.of_below (S := Any) hb).cell trivial hd
          have hnx := allN_succ hlt
          rw [← hA.out] at hnx
          have hbd := allN_bound Hsm.out (k + 1) (by omega)
          rw [hnx] at hbd
          have hbd0 : 0 ≤ A + (l[k].blts.length : Int) ∧ A + (l[k].blts.length : Int) ≤ 1000000000000 := by omega
          have hfs := flat_succ (fndX m) hlt
          have hfx0 : fndX m l[k] = if hasN m l[k].name.data.toList then [] else [⟨3, l[k].name, 0, (l[k].blts.length : Int)⟩] := rfl
          have hll := flat_len (fndX m) (fndX_len m) (l.take k)
          have hll2 : (LM ++ (l.take k).flatMap (fndX m)).length ≤ 100000000 := by rw [List.length_append]; rw [List.length_take] at hll; omega
          have hlo := fun j hj => (Own.lt hown.out j hj).1
          have hnb : some b ≠ (Value.slice ax n cp).ownBlock := fun he => by have := hlo b he.symm; omega
          have hfs2 : LM ++ (l.take (k + 1)).flatMap (fndX m) = (LM ++ (l.take k).flatMap (fndX m)) ++ fndX m l[k] := by rw [hfs, List.append_assoc]
          obtain ⟨Lk, hLk⟩ : ∃ Lk, Lk = LM ++ (l.take k).flatMap (fndX m) := ⟨_, rfl⟩
          rw [← hLk] at hfs2 hll2 hown
          clear hLk hfs
          have hfs := hfs2
          clear hfs2
          have hof := refOf2 S _ m l[k].name wr (HXX.out _ hb)
          rw [ofS_has] at hof
          obtain ⟨O, hO⟩ : ∃ O, O = (ofS m l[k].name).getD zS := ⟨_, rfl⟩
          rw [← hO] at hof
          have Hfs := Lib.hid hfs; have Hll2 := Lib.hid hll2; have Hlo := Lib.hid hlo; have Hnb := Lib.hid hnb; have Hwf := Lib.hid hwf; have Hnl := Lib.hid hnl; have Hnx := Lib.hid hnx
          clear hfs hll hll2 hlo hnb hwf hx hO hc hd hmk hnx hbd
          cases hh : hasN m l[k].name.data.toList
          · rw [hh] at hof hfx0
            have Hfx0 := Lib.hid hfx0; have Hof := Lib.hid hof
            clear hh hfx0 hof
            go_upto_region 26 with (go_at_call 78; refine Hof.out.mono ?_; rintro e w4 ⟨rfl, hb4⟩; have hz4 := hb4.size; have hc4 := (Same.of_below (S := Any) hb4).cell trivial hcr; have hd4 := (Same.of_below (S := Any) hb4).cell trivial hdr; have hbw4 : b < w4.heap.size := (by omega))
            have hb5 : Below wr.heap.size wr (w4.alloc (.cells #[.string O.name, .int .i64 O.many] 95)) := hb4.alloc hz4 _
            obtain ⟨w5, hw5⟩ : ∃ w5, w5 = (w4.alloc (.cells #[.string O.name, .int .i64 O.many] 95)) := ⟨_, rfl⟩
            rw [← hw5] at hb5 ⊢
            clear hw5 hc4 hd4
            have hc5 := (Same.of_below (S := Any) hb5).cell trivial hcr
            have hd5 := (Same.of_below (S := Any) hb5).cell trivial hdr
            have hz5 := hb5.size
            have hbw5 : b < w5.heap.size := by omega
            have hnw : Below wr.heap.size wr (w5.drew.alloc (.cells #[.int .u8 3, .string l[k].name, .int .i64 0, .int .i64 l[k].blts.length] 113)) := (Below.drew hb5).alloc (by simp; omega) _
            have hOw := Own.below (S := fun _ => False) (dFnd.stable _) hown.out hnw
            have hu : RSl (From 0) 4 dFnd (w5.drew.alloc (.cells #[.int .u8 3, .string l[k].name, .int .i64 0, .int .i64 l[k].blts.length] 113)) (.slice (some ⟨w5.heap.size, 0, none⟩) 1 1) [(⟨3, l[k].name, 0, (l[k].blts.length : Int)⟩ : Fnd)] := RSl.built (cs := [.int .u8 3, .string l[k].name, .int .i64 0, .int .i64 l[k].blts.length]) (Nat.zero_le _) (box_new w5.drew _) rfl ⟨rfl, (show (Lit.int .u8 3).wf = true by decide), Hnl.out, (show (Lit.int .i64 0).wf = true by decide), Hwf.out⟩
            have HOw := Lib.hid hOw; have Hu := Lib.hid hu; have Hnw := Lib.hid hnw
            clear hOw hu hnw
            go_region_held3 (fun w' => w'.cell? ⟨b, off + k * 2, none⟩ = some (.string l[k].name) ∧ w'.cell? ⟨b, off + k * 2 + 1, none⟩ = some (.int .i64 l[k].blts.length))
            (first
              | go_keep
              | (go_split_ands
                 refine ⟨?_, ?_⟩
                 · exact hg.cell (by assumption) Hnb.out
                 · exact hg.cell (by assumption) Hnb.out))
            ((refine step_app _ Try.infoFnd rfl rfl Try.underlying41 ⟨rfl, by omega, by omega⟩ dFnd.one (dFnd.stable (fun _ => False)) w3.heap.size HOw.out rfl Hu.out rfl (by have := Hll2.out; simp only [List.length_cons, List.length_nil]; omega) (by simp; omega) ?_; intro a7 c7 w7 hg hat ho1))
            have ho2 := ho1 (fun _ _ h => h.elim)
            have hb7 := (hb.trans (Hnw.out.mono hz)).grown hg (by simp; omega) Hlo.out
            have Ho2 := Lib.hid ho2; have Hg := Lib.hid hg; have Hat := Lib.hid hat; clear ho1 ho2 hg hat
            go_wp2
            exact ⟨⟨k + 1, a7, _, c7, _, by omega, by go_num, rfl, rfl, Lib.hid Hnx.out.symm, hbd0.1, hbd0.2, Lib.hid (by have h3 := Ho2.out; rw [List.length_append] at h3; rw [Hfs.out, Hfx0.out]; exact h3), hb7⟩, by simp [intOf]; omega⟩
          · have hfx0 : fndX m l[k] = [] := by rw [hfx0, hh]; rfl
            rw [hh] at hof
            have Hfx0 := Lib.hid hfx0; have Hof := Lib.hid hof
            clear hh hfx0 hof
            go_wp2_with (go_at_call 78; refine Hof.out.mono ?_; rintro e w4 ⟨rfl, hb4⟩; have hz4 := hb4.size; have hb5 : Below wr.heap.size wr (w4.alloc (.cells #[.string O.name, .int .i64 O.many] 95)) := hb4.alloc hz4 _; have ho5 := Own.below (S := fun _ => False) (dFnd.stable _) hown.out hb5; have Ho5 := Lib.hid ho5; clear ho5)
            exact ⟨⟨k + 1, ax, n, cp, _, by omega, by go_num, rfl, rfl, Lib.hid Hnx.out.symm, hbd0.1, hbd0.2, Lib.hid (by rw [Hfs.out, Hfx0.out, List.append_nil]; exact Ho5.out), hb.trans (hb5.mono hz)⟩, by simp [intOf]; omega⟩
        · have hk' : k = l.length := by omega
          subst hk'
          have hol := hown.out
          have hAl := hA.out
          rw [List.take_length] at hol hAl
          have hrl : recL m l voted = LM ++ l.flatMap (fndX m) ++ fndV A voted := by rw [recL, ← HLM.out, ← hAl]
          have hlenX := flat_len (fndX m) (fndX_len m) l
          have hll2 : (LM ++ l.flatMap (fndX m)).length ≤ 100000000 := by rw [List.length_append]; omega
          obtain ⟨Lk, hLk⟩ : ∃ Lk, Lk = LM ++ l.flatMap (fndX m) := ⟨_, rfl⟩
          rw [← hLk] at hol hrl hll2
          clear hLk
          have hlo := fun j hj => (Own.lt hol j hj).1
          have hqr : Below w.heap.size w wr := hq3.trans (hb.mono hl3)
          have hAw : Hid ((Lit.int .i64 A).wf = true) := Lib.hid (by obtain ⟨q', rfl⟩ : ∃ q' : Nat, A = q' := ⟨A.toNat, by omega⟩; exact wf_len (by omega))
          have Hol := Lib.hid hol; have Hrl := Lib.hid hrl; have Hll2 := Lib.hid hll2; have Hlo := Lib.hid hlo
          clear hol hown hAl hA hrl hll2 hlo hlenX hlenM
          by_cases hav : A = voted
          · have hne : (A != voted) = false := by simpa using hav
            have Hav := Lib.hid hav
            clear hav
            go_wp2
            go_ret2
            exact HG.out _ _ _ (by rw [Hrl.out, fndV, if_pos Hav.out, List.append_nil]; exact Hol.out) hl3 hqr
          · have hne : (A != voted) = true := by simpa using hav
            have Hav := Lib.hid hav
            clear hav
            have hOw := Own.below (S := fun _ => False) (dFnd.stable _) Hol.out (below_new wr (.cells #[.int .u8 4, .string ⟨#[]⟩, .int .i64 voted, .int .i64 A] 113))
            have hu : RSl (From 0) 4 dFnd (wr.alloc (.cells #[.int .u8 4, .string ⟨#[]⟩, .int .i64 voted, .int .i64 A] 113)) (.slice (some ⟨wr.heap.size, 0, none⟩) 1 1) [(⟨4, ⟨#[]⟩, voted, A⟩ : Fnd)] := RSl.built (cs := [.int .u8 4, .string ⟨#[]⟩, .int .i64 voted, .int .i64 A]) (Nat.zero_le _) (box_new _ _) rfl ⟨rfl, (show (Lit.int .u8 4).wf = true by decide), (show (0 : Nat) ≤ _ by omega), Hvw.out, hAw.out⟩
            have HOw := Lib.hid hOw; have Hu := Lib.hid hu
            clear hOw hu
            go_wp2_with (at_builtin; go_must (refine wpList_app _ Try.infoFnd rfl rfl Try.underlying41 ⟨rfl, by omega, by omega⟩ dFnd.one (dFnd.stable (fun _ => False)) w3.heap.size HOw.out rfl Hu.out rfl (by have := Hll2.out; simp only [List.length_cons, List.length_nil]; omega) (by simp; omega) ?_); intro a7 c7 w7 hg hat ho1; have ho2 := ho1 (fun _ _ h => h.elim); have hb7 := (hb.trans (below_new _ _ |>.mono hz)).grown hg (by simp; omega) Hlo.out; have Ho2 := Lib.hid ho2; have Hg := Lib.hid hg; have Hat := Lib.hid hat; clear ho1 ho2 hg hat)
            go_ret2
            exact HG.out _ _ _ (by have h3 := Ho2.out; rw [Hrl.out, fndV, if_neg Hav.out]; first | exact h3 | (rw [List.length_append] at h3; exact h3) | (rw [List.length_append, List.length_append] at h3; exact h3)) hl3 (hq3.trans (hb7.mono hl3))
theorem refReconcile (S : Nat → Prop) (u v : Value) (m : List Slot) (l : List Btc) (c kind voted : Int) (w : World) (hx : RSl S 2 dSlot w u m) (hy : RBtcs S w v l) (hlm : m.length ≤ 1000) (hsm : Small l) (hvw : (Lit.int .i64 voted).wf = true) :
    Calls Try.prog 29 #[u, v, .int .i64 c, .int .u8 kind, .int .i64 voted] w (RecoGives m l c kind voted w) := by
  by_cases h : chkS m = 0 ∧ recCheck l c kind = 0 ∧ 0 ≤ voted
  · exact refReco_main S u v m l c kind voted w hx hy hlm hsm hvw h.1 h.2.1 h.2.2
  · exact refReco_bad S u v m l c kind voted w hx hy h
end Go.Proofs.Ytkjgddcjhikdgaa

/- Arguments that are manifests, ratios: read as rows. -/
namespace Go.Proofs.Ytkjgddcjhikdgaa
open Go Go.RowKit Go.Deep Go.ChangeShapes Go.WideShapes Go.ChangeAt

theorem Try.cellsSlot : Try.prog.cellsOf 95 = 2 := by kernel_rfl
theorem Try.bytesSlot : Try.prog.bytesOf 95 = 24 := by kernel_rfl
section
variable {H : Type} {enc : TypeId × Value → H} {w : World} {base : Nat} {spare : Nat → Bool} {held : Bool}
set_option maxRecDepth 100000 in
theorem slot_of {fuel : Nat} {cs : List Value} {x : DataW H × List MemPlace} (h : DataW.trod enc Try.prog w base spare held fuel 95 cs = some x) (hz : ∀ m ∈ x.1.weights Try.prog 95, m ≤ reachBytes) : ∃ a, dSlot w cs a := by
  obtain ⟨y0, y1, n, rfl, hl, h0, h1⟩ := trod_struct2 Try.underlying95 h
  rw [Try.cellsSlot] at hl
  match cs, hl with
  | [c, d], _ =>
    simp only [Try.cellsStr, Try.cellsInt, List.drop_zero, List.take_succ_cons, List.take_zero, List.drop_succ_cons] at h0 h1
    obtain ⟨s, e0, hs⟩ := str_of_trod Try.underlying9 h0 (fun m hm => hz m (by simp [DataW.weights, Try.underlying95, DataW.weightsEach, hm]))
    obtain ⟨k, e1, hk⟩ := int_of_trod Try.underlying3 h1
    simp only [List.cons.injEq, and_true] at e0 e1
    subst e0 e1
    exact ⟨⟨s, k⟩, rfl, hs, hk⟩
set_option maxRecDepth 100000 in
theorem arg_slots {b0 : Nat} {v : Value} {d : DataW H} {ps : List MemPlace} (hv : Value.okWide Try.prog w .any b0 39 v) (h : DataW.Trod enc Try.prog w base spare held 39 v d ps)
    (hz : ∀ m ∈ d.weights Try.prog 39, m ≤ reachBytes) : ∃ xs, RSl Any 2 dSlot w v xs := by
  obtain ⟨a, n, c, rfl⟩ := okWide_slice Try.underlying39 hv
  obtain ⟨fuel, hf⟩ := h
  obtain ⟨u, xs, e, hr⟩ := rsl_of_trod (α := Slot) (dec := dSlot) Try.underlying39 Try.cellsSlot (by omega) (by rw [Try.bytesSlot]; omega) hf hz (fun _ _ _ hy hm => slot_of hy hm)
  simp [Value.cells] at e
  exact ⟨xs, e ▸ hr⟩
end
end Go.Proofs.Ytkjgddcjhikdgaa

/- What the law CanvassTells answers. -/
namespace Go.Proofs.Ytkjgddcjhikdgaa
open Go Go.RowKit Go.Shelf

def RecoOpen (FL : List Fnd) (I : Int) (w : World) (e : Ending) (w' : World) : Prop :=
  ∃ v, e = .returned (.tuple #[v, .int .i64 I]) ∧ Own w.heap.size 113 4 dFnd w' v FL ∧ Below w.heap.size w w'
theorem RecoOpen.of {m : List Slot} {l : List Btc} {c kind voted : Int} {FL : List Fnd} {I : Int} {w w' : World} {e : Ending} (hI : recoI m l c kind voted = I) (hP : recoV m l c kind voted = FL) (h : RecoGives m l c kind voted w e w') : RecoOpen FL I w e w' := by
  subst hI; subst hP; exact h
theorem sameFndsT (S T : Nat → Prop) (u v : Value) (xs : List Fnd) (w : World) (hx : RSl S 4 dFnd w u xs) (hy : RSl T 4 dFnd w v xs) :
    Calls Try.prog 35 #[u, v] w fun e w' => e = .returned (.bool true) ∧ Below w.heap.size w w' := by
  have := sameFnds S T u v xs xs w hx hy
  rwa [eqL_refl eqFnd_refl] at this
theorem sameSlotsT (S T : Nat → Prop) (u v : Value) (xs : List Slot) (w : World) (hx : RSl S 2 dSlot w u xs) (hy : RSl T 2 dSlot w v xs) :
    Calls Try.prog 32 #[u, v] w fun e w' => e = .returned (.bool true) ∧ Below w.heap.size w w' := by
  have := sameSlots S T u v xs xs w hx hy
  rwa [eqL_refl eqSlot_refl] at this
set_option maxHeartbeats 1000000 in
theorem ctells_great (S : Nat → Prop) (u v : Value) (m : List Slot) (l : List Btc) (c kind voted : Int) (w : World) (h : RSl S 2 dSlot w u m) (hv : RBtcs S w v l) (hg : (greatS m || great l) = true) :
    Calls Try.prog 4 #[u, v, .int .i64 c, .int .u8 kind, .int .i64 voted] w fun e w' => e = .returned (.bool true) ∧ Below w.heap.size w w' := by
  have hG := greatSlots S u m w h
  have hG2 := fun W hW => great26 S v l W (hv.same (.of_below (hW : Below w.heap.size w W)))
  obtain ⟨a1, cap1, rfl, -, -⟩ := RSl.shape h
  obtain ⟨a2, cap2, rfl, -, -⟩ := RSl.shape hv
  cases hg1 : greatS m
  · rw [hg1] at hG hg
    have hg2 : great l = true := by simpa using hg
    rw [hg2] at hG2
    have HG := Lib.hid hG
    have HG2 := Lib.hid hG2
    clear hG hG2 hg hg1 hg2 h hv
    go_enter Try.func4, Try.ntmps4
    go_wp2_with (first | (go_at_call 27; refine HG.out.mono ?_; rintro e w1 ⟨rfl, hb1⟩) | (go_at_call 18; refine (HG2.out _ hb1).mono ?_; rintro e w2 ⟨rfl, hb2⟩))
    go_ret
    exact ⟨rfl, hb1.trans (hb2.mono hb1.size)⟩
  · rw [hg1] at hG
    have HG := Lib.hid hG
    clear hG hG2 hg hg1 h hv
    go_enter Try.func4, Try.ntmps4
    go_wp2_with (go_at_call 27; refine HG.out.mono ?_; rintro e w1 ⟨rfl, hb1⟩)
    go_ret
    exact ⟨rfl, hb1⟩
set_option maxHeartbeats 4000000 in
set_option maxRecDepth 100000 in
theorem ctells_small (S : Nat → Prop) (u v : Value) (m : List Slot) (l : List Btc) (c kind voted : Int) (w : World) (h : RSl S 2 dSlot w u m) (hv : RBtcs S w v l) (hvw : (Lit.int .i64 voted).wf = true) (hg1 : greatS m = false) (hg2 : great l = false) :
    Calls Try.prog 4 #[u, v, .int .i64 c, .int .u8 kind, .int .i64 voted] w fun e w' => e = .returned (.bool true) ∧ Below w.heap.size w w' := by
  obtain ⟨I, hI⟩ : ∃ I, recoI m l c kind voted = I := ⟨_, rfl⟩
  obtain ⟨FL, hFL⟩ : ∃ FL, recoV m l c kind voted = FL := ⟨_, rfl⟩
  obtain ⟨rc, hrc⟩ : ∃ rc, chkS m = rc := ⟨_, rfl⟩
  have hsl := small_of hg2
  have hlm : m.length ≤ 100 := by simp [greatS] at hg1; omega
  have hfl : FL.length ≤ 140737488355328 := by
    rw [← hFL, recoV]
    split
    · have h1 := flat_len (fndM l) (fndM_len l) m
      have h2 := flat_len (fndX m) (fndX_len m) l
      have h3 := hsl.1
      have h4 : (fndV (allN l) voted).length ≤ 1 := by unfold fndV; split <;> simp
      rw [recL, List.length_append, List.length_append]
      omega
    · simp
  have hml : (maniL l).length ≤ 140737488355328 := by have := hsl.1; simp [maniL]; omega
  have hG := greatSlots S u m w h
  have hG2 := fun W hW => great26 S v l W (hv.same (.of_below (hW : Below w.heap.size w W)))
  rw [hg1] at hG
  rw [hg2] at hG2
  have hA := fun W p q (hp : RSl Any 2 dSlot W p m) (hq : RBtcs Any W q l) => (canvassReconcile Any p q m l c kind voted W hp hq (by omega) hsl hvw).mono fun _ _ => RecoOpen.of hI hFL
  have hB := fun W p q (hp : RSl S 2 dSlot W p m) (hq : RBtcs S W q l) => (refReconcile S p q m l c kind voted W hp hq (by omega) hsl hvw).mono fun _ _ => RecoOpen.of hI hFL
  have hC := fun W p (hp : RSl Any 2 dSlot W p m) => canvassCheck Any p m W hp
  have hD := fun W p (hp : RSl S 2 dSlot W p m) => refCheckS S p m W hp
  rw [hrc] at hC hD
  obtain ⟨a1, cap1, rfl, -, hm2⟩ := RSl.shape h
  obtain ⟨a2, cap2, rfl, -, -⟩ := RSl.shape hv
  have HG := Lib.hid hG; have HG2 := Lib.hid hG2; have HA := Lib.hid hA; have HB := Lib.hid hB; have HC := Lib.hid hC; have HD := Lib.hid hD
  have H := Lib.hid h; have Hv := Lib.hid hv; have Hsl := Lib.hid hsl; have Hfl := Lib.hid hfl; have Hml := Lib.hid hml
  clear hG hG2 hA hB hC hD h hv hsl hg1 hg2 hI hFL hrc hfl hml hvw
  go_enter Try.func4, Try.ntmps4
  go_upto_region 4 with (first
    | (go_at_call 27; refine HG.out.mono ?_; rintro e w1 ⟨rfl, hb1⟩)
    | (go_at_call 18; refine (HG2.out _ hb1).mono ?_; rintro e w2 ⟨rfl, hb2⟩; have hq2 : Below w.heap.size w w2 := hb1.trans (hb2.mono hb1.size))
    | (go_at_call 20; refine (twinRef S _ l _ (Hv.out.same (.of_below hq2)) Hsl.out).mono ?_; rintro e w3 ⟨v3, ys, rfl, htw, hys, hb3⟩; have hq3 := hq2.trans (hb3.mono hq2.size); have hr3 := RBtcs.mono (T := Any) (fun _ _ => trivial) (twin_reads htw hys Hsl.out).toR; obtain ⟨a4, c4, rfl, -, -⟩ := id (RSl.shape hr3); have hl3 := hq3.size; have HR3 := Lib.hid hr3; clear htw hys hr3)
    | (at_builtin; go_must (refine wpList_app _ Try.infoSlot rfl rfl Try.underlying39 ⟨rfl, by omega, by omega⟩ dSlot.one (dSlot.stable (fun _ => False)) w3.heap.size (Own.fresh _ _ _ _ 0 (box_new w3 (.cells #[] 95)) (Nat.le_refl _) (by simp [maxLen]) rfl) rfl (RSl.same (dSlot.stable _) (.of_below (hq3.alloc hl3 _)) H.out) rfl (by simp; omega) (by simp) ?_); intro a6 c6 w5 hgr hat ho; have ho5 := ho (fun _ _ hh => hh.elim); simp only [List.nil_append] at ho5; have hb5 : Below w3.heap.size w3 w5 := (below_new _ _).grown hgr (by simp) (by simp [Value.ownBlock]); have Ho5 := Lib.hid ho5; have Hgr := Lib.hid hgr; have Hat := Lib.hid hat; clear ho ho5 hgr hat))
  have hq5 : Below w.heap.size w w5 := hq3.trans (hb5.mono hl3)
  have hl5 := hb5.size
  have hR : ∀ W, Below w5.heap.size w5 W → RBtcs Any W (.slice a4 l.length c4) l := fun W hW => (HR3.out.same (.of_below hb5)).same (.of_below hW)
  have hLl : ∀ W, Below w5.heap.size w5 W → RBtcs S W (.slice a2 l.length cap2) l := fun W hW => (Hv.out.same (.of_below hq5)).same (.of_below hW)
  have hLm : ∀ W, Below w5.heap.size w5 W → RSl S 2 dSlot W (.slice a1 m.length cap1) m := fun W hW => RSl.same (dSlot.stable _) (.of_below hW) (RSl.same (dSlot.stable _) (.of_below hq5) H.out)
  have hAm : ∀ W, Below w5.heap.size w5 W → RSl Any 2 dSlot W (.slice a6 m.length c6) m := fun W hW => RSl.same (dSlot.stable _) (.of_below hW) (RSl.mono (fun _ _ _ h => h) (fun _ _ => trivial) (Own.rsl Ho5.out (by omega)))
  have HRR := Lib.hid hR; have HLl := Lib.hid hLl; have HLm := Lib.hid hLm; have HAm := Lib.hid hAm
  clear hR hLl hLm hAm HG HG2 Ho5 Hgr Hat
  go_wp2_with (first
    | (go_at_call 28; refine (HA.out _ _ _ (HAm.out _ (Below.refl _ _)) (HRR.out _ (Below.refl _ _))).mono ?_; rintro e w6 ⟨v6, rfl, ho6, hb6⟩; obtain ⟨ax6, cx6, rfl⟩ := id (Own.shape ho6); have hl6 := hb6.size; have Ho6 := Lib.hid ho6; clear ho6)
    | (go_at_call 29; refine (HB.out _ _ _ (HLm.out _ hb6) (HLl.out _ hb6)).mono ?_; rintro e w7 ⟨v7, rfl, ho7, hb7⟩; obtain ⟨ax7, cx7, rfl⟩ := id (Own.shape ho7); have hp7 := hb6.trans (hb7.mono hl6); have hl7 := hp7.size; have hs7 := hb7.size; have Ho7 := Lib.hid ho7; clear ho7)
    | (go_at_call 30; refine (HC.out _ _ (HAm.out _ hp7)).mono ?_; rintro e w8 ⟨rfl, hb8⟩; have hp8 := hp7.trans (hb8.mono hl7); have hl8 := hp8.size; have hs8 := hb8.size)
    | (go_at_call 31; refine (HD.out _ _ (HLm.out _ hp8)).mono ?_; rintro e w9 ⟨rfl, hb9⟩; have hp9 := hp8.trans (hb9.mono hl8); have hl9 := hp9.size; have hs9 := hb9.size)
    | (go_at_call 33; refine (manifest Any _ l _ (HRR.out _ hp9) Hsl.out.1).mono ?_; rintro e w10 ⟨v10, rfl, ho10, hb10⟩; obtain ⟨ax10, cx10, rfl⟩ := id (Own.shape ho10); have hp10 := hp9.trans (hb10.mono hl9); have hl10 := hp10.size; have hs10 := hb10.size; have Ho10 := Lib.hid ho10; clear ho10)
    | (go_at_call 34; refine (refManifest S _ l _ (HLl.out _ hp10) Hsl.out.1).mono ?_; rintro e w11 ⟨v11, rfl, ho11, hb11⟩; obtain ⟨ax11, cx11, rfl⟩ := id (Own.shape ho11); have hp11 := hp10.trans (hb11.mono hl10); have hl11 := hp11.size; have hs11 := hb11.size; have Ho11 := Lib.hid ho11; clear ho11)
    | (go_at_call_of 32 (ax10); refine (sameSlotsT _ _ _ _ (maniL l) _ (RSl.same (dSlot.stable _) (.of_below hb11) (Own.rsl Ho10.out Hml.out)) (Own.rsl Ho11.out Hml.out)).mono ?_; rintro e w12 ⟨rfl, hb12⟩; have hp12 := hp11.trans (hb12.mono hl11); have hl12 := hp12.size; have hs12 := hb12.size; have h712 : Below w7.heap.size w7 w12 := ((((hb8.trans (hb9.mono (by omega))).trans (hb10.mono (by omega))).trans (hb11.mono (by omega))).trans (hb12.mono (by omega))))
    | (go_at_call 35; refine (sameFndsT _ _ _ _ FL _ (RSl.same (dFnd.stable _) (.of_below (hb7.trans (h712.mono hs7))) (Own.rsl Ho6.out Hfl.out)) (RSl.same (dFnd.stable _) (.of_below h712) (Own.rsl Ho7.out Hfl.out))).mono ?_; rintro e w13 ⟨rfl, hb13⟩; have hp13 := hp12.trans (hb13.mono hl12); have hl13 := hp13.size)
    | (go_at_call 24; refine (sameT _ _ _ _ _ _ (HRR.out _ hp13) (HLl.out _ hp13)).mono ?_; rintro e w14 ⟨rfl, hb14⟩; have hp14 := hp13.trans (hb14.mono hl13); have hl14 := hp14.size)
    | (go_at_call 32; refine (sameSlotsT _ _ _ _ m _ (HAm.out _ hp14) (HLm.out _ hp14)).mono ?_; rintro e w15 ⟨rfl, hb15⟩))
  go_ret
  exact ⟨rfl, hq5.trans ((hp14.trans (hb15.mono hl14)).mono hq5.size)⟩
theorem law_ctells (u v : Value) (m : List Slot) (l : List Btc) (c kind voted : Int) (w : World) (h : RSl Any 2 dSlot w u m) (hv : RBtcs Any w v l) (_ : (Lit.int .i64 c).wf = true) (_ : (Lit.int .u8 kind).wf = true) (hvw : (Lit.int .i64 voted).wf = true) :
    Calls Try.prog 4 #[u, v, .int .i64 c, .int .u8 kind, .int .i64 voted] w fun e w' => e = .returned (.bool true) ∧ Below w.heap.size w w' := by
  cases hg : (greatS m || great l)
  · simp only [Bool.or_eq_false_iff] at hg
    exact ctells_small Any u v m l c kind voted w h hv hvw hg.1 hg.2
  · exact ctells_great Any u v m l c kind voted w h hv hg
end Go.Proofs.Ytkjgddcjhikdgaa

/- The walk of the law CanvassFits. -/
namespace Go.Proofs.Ytkjgddcjhikdgaa
open Go Go.RowKit Go.Shelf

theorem eqlSlot (w : World) {w1 w2 : World} {c d c' d' : Value} {x y : Slot} (h : dSlot w1 [c, d] x) (k : dSlot w2 [c', d'] y) :
    (binOp .eql 95 (.agg #[c, d]) (.agg #[c', d'])).run Try.prog w = .ok (.bool (eqSlot x y)) w := by
  obtain ⟨⟨rfl, rfl⟩, -⟩ := h.open
  obtain ⟨⟨rfl, rfl⟩, -⟩ := k.open
  rw [run_eql_struct, run_equalIn_agg _ _ _ _ _ Try.fieldsSlot Try.heldSlot]
  simp [go_sem, Try.underlying95, Try.underlying9, Try.underlying3]
  by_cases h1 : x.name.toList = y.name.toList <;> by_cases h2 : x.many = y.many <;> simp [h1, h2, eqSlot, sameName]
set_option maxHeartbeats 1000000 in
theorem fits_skip (S : Nat → Prop) (u v : Value) (m : List Slot) (l : List Btc) (c kind voted : Int) (w : World) (h : RSl S 2 dSlot w u m) (hv : RBtcs S w v l) (hg : greatS m = true ∨ great l = true ∨ recCheck l c kind ≠ 0) :
    Calls Try.prog 10 #[u, v, .int .i64 c, .int .u8 kind, .int .i64 voted] w fun e w' => e = .returned (.bool true) ∧ Below w.heap.size w w' := by
  have hG := fun W (hW : Below w.heap.size w W) => greatSlots S u m W (RSl.same (dSlot.stable _) (.of_below hW) h)
  have hG2 := fun W (hW : Below w.heap.size w W) => great26 S v l W (hv.same (.of_below hW))
  have hG3 := fun W (hW : Below w.heap.size w W) => recordCheck S v l c kind W (hv.same (.of_below hW))
  obtain ⟨a1, cap1, rfl, -, -⟩ := RSl.shape h
  obtain ⟨a2, cap2, rfl, -, -⟩ := RSl.shape hv
  clear h hv
  generalize recCheck l c kind = rc at *
  cases hg1 : greatS m
  · rw [hg1] at hG hg
    cases hg2 : great l
    · rw [hg2] at hG2 hg
      have hr : (rc != 0) = true := by simpa using hg
      have HG := Lib.hid hG; have HG2 := Lib.hid hG2; have HG3 := Lib.hid hG3
      clear hG hG2 hG3 hg hg1 hg2
      go_enter Try.func10, Try.ntmps10
      go_wp2_with (first
        | (go_at_call 55; refine (alive27 _).mono ?_; rintro r w0 ⟨rfl, hb0⟩)
        | (go_at_call 27; refine (HG.out _ hb0).mono ?_; rintro e w1 ⟨rfl, hb1⟩; have hq1 := hb0.trans (hb1.mono hb0.size))
        | (go_at_call 18; refine (HG2.out _ hq1).mono ?_; rintro e w2 ⟨rfl, hb2⟩; have hq2 := hq1.trans (hb2.mono hq1.size))
        | (go_at_call 39; refine (HG3.out _ hq2).mono ?_; rintro e w3 ⟨rfl, hb3⟩))
      go_ret
      exact ⟨rfl, hq2.trans (hb3.mono hq2.size)⟩
    · rw [hg2] at hG2
      have HG := Lib.hid hG; have HG2 := Lib.hid hG2
      clear hG hG2 hG3 hg hg1 hg2
      go_enter Try.func10, Try.ntmps10
      go_wp2_with (first
        | (go_at_call 55; refine (alive27 _).mono ?_; rintro r w0 ⟨rfl, hb0⟩)
        | (go_at_call 27; refine (HG.out _ hb0).mono ?_; rintro e w1 ⟨rfl, hb1⟩; have hq1 := hb0.trans (hb1.mono hb0.size))
        | (go_at_call 18; refine (HG2.out _ hq1).mono ?_; rintro e w2 ⟨rfl, hb2⟩))
      go_ret
      exact ⟨rfl, hq1.trans (hb2.mono hq1.size)⟩
  · rw [hg1] at hG
    have HG := Lib.hid hG
    clear hG hG2 hG3 hg hg1
    go_enter Try.func10, Try.ntmps10
    go_wp2_with (first
      | (go_at_call 55; refine (alive27 _).mono ?_; rintro r w0 ⟨rfl, hb0⟩)
      | (go_at_call 27; refine (HG.out _ hb0).mono ?_; rintro e w1 ⟨rfl, hb1⟩))
    go_ret
    exact ⟨rfl, hb0.trans (hb1.mono hb0.size)⟩
/-- What the law's main way needs of its callees. -/
structure FitsHas (a1 a2 : Option Addr) (n1 c1 n2 c2 : Nat) (c kind voted : Int) (w : World) (O : List Slot) (f : Nat → Int) (F : Int) (FL : List Fnd) : Prop where
  alive : ∀ W, Calls Try.prog 55 #[] W fun e w' => e = .returned (.bool true) ∧ Below W.heap.size W w'
  G : ∀ W, Below w.heap.size w W → Calls Try.prog 27 #[.slice a1 n1 c1] W fun e w' => e = .returned (.bool false) ∧ Below W.heap.size W w'
  G2 : ∀ W, Below w.heap.size w W → Calls Try.prog 18 #[.slice a2 n2 c2] W fun e w' => e = .returned (.bool false) ∧ Below W.heap.size W w'
  G3 : ∀ W, Below w.heap.size w W → Calls Try.prog 39 #[.slice a2 n2 c2, .int .i64 c, .int .u8 kind] W fun e w' => e = .returned (.int .i64 0) ∧ Below W.heap.size W w'
  M : ∀ W, Below w.heap.size w W → Calls Try.prog 33 #[.slice a2 n2 c2] W (GivesOwn 95 2 dSlot O W)
  A : ∀ W p, Below w.heap.size w W → RSl Any 2 dSlot W p O → Calls Try.prog 28 #[p, .slice a2 n2 c2, .int .i64 c, .int .u8 kind, .int .i64 (f O.length)] W (RecoOpen [] 0 W)
  B : ∀ W, Below w.heap.size w W → Calls Try.prog 28 #[.slice a1 n1 c1, .slice a2 n2 c2, .int .i64 c, .int .u8 kind, .int .i64 voted] W (RecoOpen FL F W)
  D : ∀ W p, RSl Any 2 dSlot W p O → Calls Try.prog 30 #[p] W fun e w' => e = .returned (.int .i64 0) ∧ Below W.heap.size W w'
  f0 : f 0 = 0
  fs : ∀ k (hk : k < O.length), f (k + 1) = f k + O[k].many
  fb : ∀ k, k ≤ O.length → 0 ≤ f k ∧ f k ≤ 1000000000000
set_option maxHeartbeats 4000000 in
set_option maxRecDepth 100000 in
theorem fits_ret (a1 a2 : Option Addr) (n1 c1 n2 c2 : Nat) (c kind voted : Int) (w : World) (O : List Slot) (f : Nat → Int) (F : Int) (FL : List Fnd) (H0 : FitsHas a1 a2 n1 c1 n2 c2 c kind voted w O f F FL) (hO16 : O.length ≤ 16) (hF : (F != 0) = true ∨ (F = 0 ∧ 0 < FL.length)) :
    Calls Try.prog 10 #[.slice a1 n1 c1, .slice a2 n2 c2, .int .i64 c, .int .u8 kind, .int .i64 voted] w fun e w' => e = .returned (.bool true) ∧ Below w.heap.size w w' := by
  have H := Lib.hid H0
  have HF := Lib.hid hF
  clear H0 hF
  go_enter Try.func10, Try.ntmps10
  go_wp2_with (first
    | (go_at_call 55; refine (H.out.alive _).mono ?_; rintro r w0 ⟨rfl, hb0⟩)
    | (go_at_call 27; refine (H.out.G _ hb0).mono ?_; rintro e w1 ⟨rfl, hb1⟩; have hq1 := hb0.trans (hb1.mono hb0.size))
    | (go_at_call 18; refine (H.out.G2 _ hq1).mono ?_; rintro e w2 ⟨rfl, hb2⟩; have hq2 := hq1.trans (hb2.mono hq1.size))
    | (go_at_call 39; refine (H.out.G3 _ hq2).mono ?_; rintro e w3 ⟨rfl, hb3⟩; have hq3 := hq2.trans (hb3.mono hq2.size); have hz3 := hq3.size)
    | (go_at_call 33; refine (H.out.M _ hq3).mono ?_; rintro e w4 ⟨v4, rfl, ho4, hb4⟩; obtain ⟨a4, c4, rfl⟩ := id (Own.shape ho4); have hq4 := hq3.trans (hb4.mono hz3); have hz4 := hq4.size; have Ho4 := Lib.hid ho4; clear ho4))
  have hOO : ∀ W, Below w4.heap.size w4 W → RSl Any 2 dSlot W (.slice a4 O.length c4) O := fun W hW => RSl.same (dSlot.stable _) (.of_below hW) (RSl.mono (fun _ _ _ h => h) (fun _ _ => trivial) (Own.rsl Ho4.out (by omega)))
  have HOO := Lib.hid hOO
  clear hOO Ho4
  go_loopw [13, 14] (fun al i wr => ∃ (k : Nat) (A : Int), k ≤ O.length ∧ i = .int .i64 k ∧ al = .int .i64 A ∧ Hid (A = f k) ∧ 0 ≤ A ∧ A ≤ 1000000000000 ∧ Below w4.heap.size w4 wr) (fun _ i _ => O.length - (intOf i).toNat)
  case atStart => exact ⟨0, 0, Nat.zero_le _, rfl, rfl, Lib.hid H.out.f0.symm, by omega, by omega, Below.refl _ _⟩
  case round =>
    obtain ⟨k, A, hk, rfl, rfl, hAk, hA0, hA1, hb⟩ := hrel
    by_cases hlt : k < O.length
    · obtain ⟨b, off, p0, p1, rfl, -, hbw, hp0, hp1, hd⟩ := RSl.at2 (HOO.out _ hb) k hlt
      obtain ⟨⟨rfl, rfl⟩, -⟩ := hd.open
      have hnx := H.out.fs k hlt
      rw [← hAk.out] at hnx
      have hbd := H.out.fb (k + 1) hlt
      rw [hnx] at hbd
      have Hnx := Lib.hid hnx
      clear hnx hd
      generalize O[k].many = z at *
      go_wp2
      exact ⟨⟨k + 1, _, by omega, by go_num, rfl, Lib.hid Hnx.out.symm, by omega, by omega, hb⟩, by simp [intOf]; omega⟩
    · have hAN : A = f O.length := by rw [hAk.out]; congr 1; omega
      have hzr := hb.size
      have HA := Lib.hid H.out.A
      rw [← hAN] at HA
      have HAN := Lib.hid hAN
      clear hAk hAN
      rcases HF.out with hF | ⟨rfl, hF⟩
      all_goals
        go_wp2_with (first
          | (go_at_call_of 28 (a4); refine (HA.out _ _ (hq4.trans (hb.mono hz4)) (HOO.out _ hb)).mono ?_; rintro e w5 ⟨v5, rfl, ho5, hb5⟩; obtain ⟨a5, c5, rfl⟩ := id (Own.shape ho5); have hp5 := hb.trans (hb5.mono hzr); have hz5 := hp5.size; clear ho5)
          | (go_at_call 30; refine (H.out.D _ _ (HOO.out _ hp5)).mono ?_; rintro e w6 ⟨rfl, hb6⟩; have hp6 := hp5.trans (hb6.mono hz5); have hz6 := hp6.size; have hq6 := hq4.trans (hp6.mono hz4))
          | (go_at_call 28; have := hb6; refine (H.out.B _ hq6).mono ?_; rintro e w7 ⟨v7, rfl, ho7, hb7⟩; obtain ⟨a7, c7, rfl⟩ := id (Own.shape ho7); have hq7 := hq6.trans (hb7.mono hq6.size); have hp7 := hp6.trans (hb7.mono hz6); clear ho7))
        go_ret
        exact ⟨rfl, hq7⟩
set_option maxHeartbeats 4000000 in
set_option maxRecDepth 100000 in
theorem fits_full (S : Nat → Prop) (m : List Slot) (a1 a2 : Option Addr) (c1 n2 c2 : Nat) (c kind voted : Int) (w : World) (O : List Slot) (f : Nat → Int) (H0 : FitsHas a1 a2 m.length c1 n2 c2 c kind voted w O f 0 []) (hO16 : O.length ≤ 16)
    (hvt : voted = f O.length) (hmO : m.length = O.length) (hhit : ∀ s ∈ m, hits O s = 1) (hm : ∀ W, Below w.heap.size w W → RSl S 2 dSlot W (.slice a1 m.length c1) m) :
    Calls Try.prog 10 #[.slice a1 m.length c1, .slice a2 n2 c2, .int .i64 c, .int .u8 kind, .int .i64 voted] w fun e w' => e = .returned (.bool true) ∧ Below w.heap.size w w' := by
  have H := Lib.hid H0
  have Hvt := Lib.hid hvt; have HmO := Lib.hid hmO; have Hhit := Lib.hid hhit; have HH := Lib.hid hm
  have hmw : ((m.length : Int) == (O.length : Int)) = true := by rw [hmO]; simp
  have hm16 : m.length ≤ 16 := by omega
  clear H0 hvt hmO hhit hm
  go_enter Try.func10, Try.ntmps10
  go_wp2_with (first
    | (go_at_call 55; refine (H.out.alive _).mono ?_; rintro r w0 ⟨rfl, hb0⟩)
    | (go_at_call 27; refine (H.out.G _ hb0).mono ?_; rintro e w1 ⟨rfl, hb1⟩; have hq1 := hb0.trans (hb1.mono hb0.size))
    | (go_at_call 18; refine (H.out.G2 _ hq1).mono ?_; rintro e w2 ⟨rfl, hb2⟩; have hq2 := hq1.trans (hb2.mono hq1.size))
    | (go_at_call 39; refine (H.out.G3 _ hq2).mono ?_; rintro e w3 ⟨rfl, hb3⟩; have hq3 := hq2.trans (hb3.mono hq2.size); have hz3 := hq3.size)
    | (go_at_call 33; refine (H.out.M _ hq3).mono ?_; rintro e w4 ⟨v4, rfl, ho4, hb4⟩; obtain ⟨a4, c4, rfl⟩ := id (Own.shape ho4); have hq4 := hq3.trans (hb4.mono hz3); have hz4 := hq4.size; have Ho4 := Lib.hid ho4; clear ho4))
  have hOO : ∀ W, Below w4.heap.size w4 W → RSl Any 2 dSlot W (.slice a4 O.length c4) O := fun W hW => RSl.same (dSlot.stable _) (.of_below hW) (RSl.mono (fun _ _ _ h => h) (fun _ _ => trivial) (Own.rsl Ho4.out (by omega)))
  have HOO := Lib.hid hOO
  clear hOO Ho4
  go_loopw [13, 14] (fun al i wr => ∃ (k : Nat) (A : Int), k ≤ O.length ∧ i = .int .i64 k ∧ al = .int .i64 A ∧ Hid (A = f k) ∧ 0 ≤ A ∧ A ≤ 1000000000000 ∧ Below w4.heap.size w4 wr) (fun _ i _ => O.length - (intOf i).toNat)
  case atStart => exact ⟨0, 0, Nat.zero_le _, rfl, rfl, Lib.hid H.out.f0.symm, by omega, by omega, Below.refl _ _⟩
  case round =>
    obtain ⟨k, A, hk, rfl, rfl, hAk, hA0, hA1, hb⟩ := hrel
    by_cases hlt : k < O.length
    · obtain ⟨b, off, p0, p1, rfl, -, hbw, hp0, hp1, hd⟩ := RSl.at2 (HOO.out _ hb) k hlt
      obtain ⟨⟨rfl, rfl⟩, -⟩ := hd.open
      have hnx := H.out.fs k hlt
      rw [← hAk.out] at hnx
      have hbd := H.out.fb (k + 1) hlt
      rw [hnx] at hbd
      have Hnx := Lib.hid hnx
      clear hnx hd
      generalize O[k].many = z at *
      go_wp2
      exact ⟨⟨k + 1, _, by omega, by go_num, rfl, Lib.hid Hnx.out.symm, by omega, by omega, hb⟩, by simp [intOf]; omega⟩
    · have hAN : A = f O.length := by rw [hAk.out]; congr 1; omega
      have hzr := hb.size
      have HA := Lib.hid H.out.A
      rw [← hAN] at HA
      have HAN := Lib.hid hAN
      clear hAk hAN
      have hvA : (voted == A) = true := by rw [Hvt.out, HAN.out]; simp
      go_wp2_with (first
        | (go_at_call_of 28 (a4); refine (HA.out _ _ (hq4.trans (hb.mono hz4)) (HOO.out _ hb)).mono ?_; rintro e w5 ⟨v5, rfl, ho5, hb5⟩; obtain ⟨a5, c5, rfl⟩ := id (Own.shape ho5); have hp5 := hb.trans (hb5.mono hzr); have hz5 := hp5.size; clear ho5)
        | (go_at_call 30; refine (H.out.D _ _ (HOO.out _ hp5)).mono ?_; rintro e w6 ⟨rfl, hb6⟩; have hp6 := hp5.trans (hb6.mono hz5); have hz6 := hp6.size; have hq6 := hq4.trans (hp6.mono hz4))
        | (go_at_call 28; have := hb6; refine (H.out.B _ hq6).mono ?_; rintro e w7 ⟨v7, rfl, ho7, hb7⟩; obtain ⟨a7, c7, rfl⟩ := id (Own.shape ho7); have hq7 := hq6.trans (hb7.mono hq6.size); have hp7 := hp6.trans (hb7.mono hz6); clear ho7))
      have hzp := hp7.size
      clear hp5 hp6 hb5 hb6 hb7 hq6 hlt hk HA
      go_loopw [19, 20] (fun th i wr => ∃ k : Nat, k ≤ m.length ∧ i = .int .i64 k ∧ th = .int .i64 k ∧ Below w7.heap.size w7 wr) (fun _ i _ => m.length - (intOf i).toNat)
      case atStart => exact ⟨0, Nat.zero_le _, rfl, rfl, Below.refl _ _⟩
      case round =>
        obtain ⟨k, hk, rfl, rfl, hb⟩ := hrel
        by_cases hlt : k < m.length
        · have hh := Hhit.out _ (List.getElem_mem hlt)
          have Hh := Lib.hid hh
          clear hh
          go_wp2
          obtain ⟨wo, rfl⟩ : ∃ wo, wo = wr := ⟨_, rfl⟩
          go_loopw [19, 21] (fun th i wr => ∃ j t : Nat, j ≤ O.length ∧ i = .int .i64 j ∧ th = .int .i64 t ∧ Hid (t = k + (O.take j).countP fun s => eqSlot m[k] s) ∧ t ≤ k + j ∧ Below w7.heap.size w7 wr) (fun _ i _ => O.length - (intOf i).toNat)
          case atStart => exact ⟨0, k, Nat.zero_le _, rfl, rfl, Lib.hid (by simp), by omega, hb⟩
          case round =>
            obtain ⟨j, t, hj, rfl, rfl, hct, htb, hb⟩ := hrel
            by_cases hjl : j < O.length
            · have hsu := hits_succ (s := m[k]) hjl
              obtain ⟨b, off, c0, c1, rfl, -, hbw, hc0, hc1, hd⟩ := RSl.at2 (HH.out _ (hq7.trans (hb.mono hq7.size))) k hlt
              obtain ⟨b2, off2, d0, d1, rfl, -, hbw2, hd0, hd1, hd2⟩ := RSl.at2 (HOO.out _ (hp7.trans (hb.mono hzp))) j hjl
              have hq : ∀ w : World, (binOp .eql 95 (.agg #[c0, c1]) (.agg #[d0, d1])).run Try.prog w = .ok (.bool (eqSlot m[k] O[j])) w := fun w => eqlSlot w hd hd2
              obtain ⟨⟨rfl, rfl⟩, -⟩ := hd.open
              obtain ⟨⟨rfl, rfl⟩, -⟩ := hd2.open
              have ec0 := fun p => cell_ext (w := wr) hc0 p
              have ec1 := fun p => cell_ext (w := wr) hc1 p
              have ed0 := fun p => cell_ext (w := wr) hd0 p
              have ed1 := fun p => cell_ext (w := wr) hd1 p
              clear hc0 hd0 hc1 hd1 hd hd2
              cases he : eqSlot m[k] O[j]
              · rw [he] at hq
                rw [he] at hsu
                have Hsu := Lib.hid hsu
                clear he hsu
                go_wp2
                refine wp_region_ext (by kernel_rfl) (by kernel_rfl) ?_
                repeat (go_big_quiet_step (fail))
                refine wpQuiet_nil ?_
                intro _ hw'; obtain ⟨p, rfl⟩ := hw'
                go_wp2
                exact ⟨⟨j + 1, t, by omega, by go_num, rfl, Lib.hid (by rw [Hsu.out, hct.out]; simp), by omega, hb.trans ((below_ext wr p).mono hb.size)⟩, by simp [intOf]; omega⟩
              · rw [he] at hq
                rw [he] at hsu
                have Hsu := Lib.hid hsu
                clear he hsu
                go_wp2
                refine wp_region_ext (by kernel_rfl) (by kernel_rfl) ?_
                repeat (go_big_quiet_step (fail))
                refine wpQuiet_nil ?_
                intro _ hw'; obtain ⟨p, rfl⟩ := hw'
                go_wp2
                exact ⟨⟨j + 1, t + 1, by omega, by go_num, by go_num, Lib.hid (by rw [Hsu.out, hct.out]; simp; omega), by omega, hb.trans ((below_ext wr p).mono hb.size)⟩, by simp [intOf]; omega⟩
            · have ht1 : t = k + 1 := by
                have := Hh.out
                rw [hct.out, List.take_of_length_le (by omega)]
                rw [hits] at this
                omega
              subst ht1
              go_wp2
              exact ⟨⟨k + 1, by omega, by go_num, by go_num, hb⟩, by simp [intOf]; omega⟩
        · have hkm : k = m.length := by omega
          subst hkm
          go_wp2
          go_ret
          exact ⟨rfl, hq7.trans (hb.mono hq7.size)⟩
theorem fits_main (S : Nat → Prop) (u v : Value) (m : List Slot) (l : List Btc) (c kind voted : Int) (w : World) (h : RSl S 2 dSlot w u m) (hv : RBtcs S w v l) (hvw : (Lit.int .i64 voted).wf = true) (hg1 : greatS m = false) (hg2 : great l = false) (hc : recCheck l c kind = 0) :
    Calls Try.prog 10 #[u, v, .int .i64 c, .int .u8 kind, .int .i64 voted] w fun e w' => e = .returned (.bool true) ∧ Below w.heap.size w w' := by
  have ha := apart_of hc
  have hsl := small_of hg2
  have hlm : m.length ≤ 100 := by simp [greatS] at hg1; omega
  obtain ⟨-, hl16, -, -, -⟩ := recCheck_ok hc
  have hK := mani_chk hc
  have hNt : allN (l.take (maniL l).length) = allN l := by rw [mani_len, List.take_length]
  have hN0 : 0 ≤ allN l ∧ allN l ≤ 1000000000000 := by have := allN_bound hsl l.length (Nat.le_refl _); rw [List.take_length] at this; omega
  have hI0 : recoI (maniL l) l c kind (allN l) = 0 := by rw [recoI, if_pos hK, if_pos hc, if_neg (by omega)]
  have hV0 : recoV (maniL l) l c kind (allN l) = [] := by rw [recoV, if_pos hI0, mani_none ha]
  have hnw : (Lit.int .i64 (allN l)).wf = true := by
    simp [Lit.wf, IntKind.min, IntKind.max, IntKind.bits, IntKind.signed]; omega
  have hOl : (maniL l).length = l.length := mani_len l
  have hH := fun W (hW : Below w.heap.size w W) => RSl.same (dSlot.stable _) (.of_below hW) h
  obtain ⟨a1, cap1, rfl, -, hm2⟩ := RSl.shape h
  obtain ⟨a2, cap2, rfl, -, -⟩ := RSl.shape hv
  have HAS : FitsHas a1 a2 m.length cap1 l.length cap2 c kind voted w (maniL l) (fun k => allN (l.take k)) (recoI m l c kind voted) (recoV m l c kind voted) := by
    refine ⟨alive27, fun W hW => ?_, fun W hW => ?_, fun W hW => ?_, fun W hW => manifest S _ l W (hv.same (.of_below hW)) hsl.1, fun W p hW hp => ?_, fun W hW => ?_, fun W p hp => ?_, rfl, fun k hk => ?_, fun k hk => ?_⟩
    · have := greatSlots S _ m W (RSl.same (dSlot.stable _) (.of_below hW) h); rwa [hg1] at this
    · have := great26 S _ l W (hv.same (.of_below hW)); rwa [hg2] at this
    · have := recordCheck S _ l c kind W (hv.same (.of_below hW)); rwa [hc] at this
    · show Calls _ _ #[p, _, _, _, .int .i64 (allN (l.take (maniL l).length))] W _
      rw [hNt]
      exact (canvassReconcile Any p _ (maniL l) l c kind (allN l) W hp (RBtcs.mono (fun _ _ => trivial) (hv.same (.of_below hW))) (by omega) hsl hnw).mono fun _ _ => RecoOpen.of hI0 hV0
    · exact (canvassReconcile S _ _ m l c kind voted W (RSl.same (dSlot.stable _) (.of_below hW) h) (hv.same (.of_below hW)) (by omega) hsl hvw).mono fun _ _ => RecoOpen.of rfl rfl
    · have := canvassCheck Any p (maniL l) W hp; rwa [hK] at this
    · show allN (l.take (k + 1)) = allN (l.take k) + _
      rw [allN_succ (by rw [← hOl]; exact hk), mani_get]
    · have := allN_bound hsl k (by omega)
      show 0 ≤ allN (l.take k) ∧ allN (l.take k) ≤ 1000000000000
      omega
  by_cases hF : recoI m l c kind voted = 0
  · by_cases hL : recoV m l c kind voted = []
    · have hck : chkS m = 0 := by
        unfold recoI at hF
        split at hF
        · assumption
        · exact absurd hF (by assumption)
      have hL2 := hL
      rw [recoV, if_pos hF] at hL2
      obtain ⟨k1, k2, k3⟩ := none_fits ha (chkS_ok hck).2.2 hL2
      rw [hF, hL] at HAS
      exact fits_full S m a1 a2 cap1 l.length cap2 c kind voted w (maniL l) _ HAS (by omega) (by rw [k1]; exact hNt.symm) (by omega) (fun s hs => hits_one ha (k3 s hs)) hH
    · exact fits_ret a1 a2 m.length cap1 l.length cap2 c kind voted w (maniL l) _ _ _ HAS (by omega) (.inr ⟨hF, List.length_pos_iff.2 hL⟩)
  · exact fits_ret a1 a2 m.length cap1 l.length cap2 c kind voted w (maniL l) _ _ _ HAS (by omega) (.inl (by simpa using hF))
theorem law_fits (u v : Value) (m : List Slot) (l : List Btc) (c kind voted : Int) (w : World) (h : RSl Any 2 dSlot w u m) (hv : RBtcs Any w v l) (_ : (Lit.int .i64 c).wf = true) (_ : (Lit.int .u8 kind).wf = true) (hvw : (Lit.int .i64 voted).wf = true) :
    Calls Try.prog 10 #[u, v, .int .i64 c, .int .u8 kind, .int .i64 voted] w fun e w' => e = .returned (.bool true) ∧ Below w.heap.size w w' := by
  by_cases hg : greatS m = true ∨ great l = true ∨ recCheck l c kind ≠ 0
  · exact fits_skip Any u v m l c kind voted w h hv hg
  · simp only [not_or, Bool.not_eq_true, Decidable.not_not] at hg
    exact fits_main Any u v m l c kind voted w h hv hvw hg.1 hg.2.1 hg.2.2
end Go.Proofs.Ytkjgddcjhikdgaa

namespace Go.Proofs.Ytkjgddcjhikdgaa
open Go Go.RowKit Go.ChangeShapes Go.WideShapes Go.ChangeAt

set_option maxRecDepth 100000 in
theorem canvassFits_lifted (os : Os) (started : os.Started) (H : Type) (enc : TypeId × Value → H) :
    ReturnsInHanded {} Try.checked os 10 .any (Rows.canvassFitsSpec.pre6 enc Try.prog Try.f10 Rows.canvassFitsRow.domain false) (Rows.canvassFitsSpec.post enc Try.prog Try.f10 false true false false) := by
  refine returnsInHanded_of_change_sized (C := Try.checked) Try.own started (by kernel_rfl) Try.func10
    (ChangeSpec.witness6 (enc := enc) (C := Try.checked) false ⟨#[], #[.slice none 0 0, .slice none 0 0, .int .i64 0, .int .u8 0, .int .i64 0], []⟩ 8 (by kernel_rfl) (by kernel_rfl) (by kernel_rfl) (by kernel_rfl)) ?_
  intro W base args ds gs before hval0 hW hcnd hsz0 _
  have hval : ∀ (j : Nat) t v, Try.f10.params[j]? = some t → args[j]? = some v → Value.okWide Try.prog W .any base t v := hval0
  have hsz : (DataW.weightsEach Try.prog (Try.f10.params.toList ++ Rows.canvassFitsSpec.plain.varTypes Try.prog) (ds ++ gs)).all (· ≤ reachBytes) = true := hsz0
  have hW' := hW
  obtain ⟨p, q, hA0, hV, rfl, hfz, hnd⟩ := hW
  have hA : DataW.TrodAll enc Try.prog W 0 (fun _ => true) true Try.f10.params.toList args.toList ds p := hA0
  rw [Try.params10] at hA hval hsz
  obtain ⟨v0, vs0, d0, ds0, p0, q0, hargs, rfl, rfl, h0, r0⟩ := trodAll_cons hA
  obtain ⟨v1, vs1, d1, ds1, p1, q1, rfl, rfl, rfl, h1, r1⟩ := trodAll_cons r0
  obtain ⟨v2, vs2, d2, ds2, p2, q2, rfl, rfl, rfl, h2, r2⟩ := trodAll_cons r1
  obtain ⟨v3, vs3, d3, ds3, p3, q3, rfl, rfl, rfl, h3, r3⟩ := trodAll_cons r2
  obtain ⟨v4, vs4, d4, ds4, p4, q4, rfl, rfl, rfl, h4, r4⟩ := trodAll_cons r3
  obtain ⟨rfl, rfl, rfl⟩ := trodAll_nil r4
  obtain rfl : args = #[v0, v1, v2, v3, v4] := by cases args; simp_all
  obtain ⟨rfl, rfl⟩ := trodVars_none hV
  have k0 := h0
  have k1 := h1
  have k2 := h2
  have k3 := h3
  have k4 := h4
  have lt0 : ∀ x ∈ p0, x.block < W.heap.size := by obtain ⟨m, hm⟩ := k0; exact DataW.trod_lt m _ _ _ hm
  have lt1 : ∀ x ∈ p1, x.block < W.heap.size := by obtain ⟨m, hm⟩ := k1; exact DataW.trod_lt m _ _ _ hm
  have lt2 : ∀ x ∈ p2, x.block < W.heap.size := by obtain ⟨m, hm⟩ := k2; exact DataW.trod_lt m _ _ _ hm
  have lt3 : ∀ x ∈ p3, x.block < W.heap.size := by obtain ⟨m, hm⟩ := k3; exact DataW.trod_lt m _ _ _ hm
  have lt4 : ∀ x ∈ p4, x.block < W.heap.size := by obtain ⟨m, hm⟩ := k4; exact DataW.trod_lt m _ _ _ hm
  obtain ⟨x0, y0⟩ := arg_slots (hval 0 _ v0 rfl rfl) h0 (weights_at hsz 0 rfl rfl)
  obtain ⟨x1, y1⟩ := arg_btcs (hval 1 _ v1 rfl rfl) h1 (weights_at hsz 1 rfl rfl)
  obtain ⟨x2, rfl, e2, e2', wf2⟩ := open_int Try.underlying3 (hval 2 _ v2 rfl rfl) h2
  obtain ⟨x3, rfl, e3, e3', wf3⟩ := open_int Try.underlying5 (hval 3 _ v3 rfl rfl) h3
  obtain ⟨x4, rfl, e4, e4', wf4⟩ := open_int Try.underlying3 (hval 4 _ v4 rfl rfl) h4
  clear hA0 hval0
  refine (law_fits v0 v1 x0 x1 x2 x3 x4 W y0 y1 wf2 wf3 wf4).mono fun e W' ⟨he, bel⟩ => ?_
  subst he
  exact ⟨_, rfl, _, _, _, [], _, [], hW', trodAll_mk1 (shut_bool Try.underlying4 _), (trodAll_cons_mk (Below.trod Try.laidOut (by kernel_rfl) (of_decide_eq_true (by kernel_rfl)) k0 bel lt0) (trodAll_cons_mk (Below.trod Try.laidOut (by kernel_rfl) (of_decide_eq_true (by kernel_rfl)) k1 bel lt1) (trodAll_cons_mk (Below.trod Try.laidOut (by kernel_rfl) (of_decide_eq_true (by kernel_rfl)) k2 bel lt2) (trodAll_cons_mk (Below.trod Try.laidOut (by kernel_rfl) (of_decide_eq_true (by kernel_rfl)) k3 bel lt3) (trodAll_cons_mk (Below.trod Try.laidOut (by kernel_rfl) (of_decide_eq_true (by kernel_rfl)) k4 bel lt4) trodAll_mk0))))), rfl, bel.frame _, fun h => by cases h⟩

theorem canvassFits_named : Try.prog.funcNamed Rows.canvassFitsRow.func = some 10 := by kernel_rfl
theorem canvassFits_facts : joinedFacts Try.prog 10 Try.f10 Rows.canvassFitsSpec Rows.canvassFitsRow = true := by kernel_rfl
theorem canvassFits_inst : Try.f10.isInstance Try.prog Rows.canvassFitsRow.origin Rows.canvassFitsRow.targs := of_decide_eq_true (by kernel_rfl)
theorem canvassFits_wrap : Try.f10.isWrapper Try.prog Rows.canvassFitsRow.wrapper Rows.canvassFitsRow.mainSum := by
  unfold Func.isWrapper
  rw [if_neg (of_decide_eq_false (by kernel_rfl))]
  exact ⟨rfl, rfl⟩
theorem canvassFits_holds : Rows.CanvassFitsSaid :=
  OpenClaim.holds_of_wide 10 Try.f10 rfl rfl rfl rfl rfl rfl rfl ⟨rfl, rfl, rfl, rfl, rfl⟩ rfl rfl rfl rfl rfl canvassFits_named Try.func10 canvassFits_facts
    canvassFits_inst canvassFits_wrap
    (fun os started H enc _ => canvassFits_lifted os started H enc)
#print axioms canvassFits_holds
end Go.Proofs.Ytkjgddcjhikdgaa
