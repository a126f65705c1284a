/- The contract of the reference's Reconcile. -/
import Derived.Test.YtkjgddcjhikdgaaRecoS
import Derived.Deep.RegionHeld3
import Derived.Deep.CutRange
namespace Go.Proofs.Ytkjgddcjhikdgaa
open Go Go.RowKit Go.Shelf Go.Maps Go.WideMaps

set_option maxHeartbeats 1000000 in
theorem refReco_bad (S : Nat → Prop) (u v : Value) (m : List Slot) (l : List Btc) (c kind voted : Int) (w : World) (hx : RSl S 2 dSlot w u m) (hy : RBtcs S w v l) (hbad : ¬ (chkS m = 0 ∧ recCheck l c kind = 0 ∧ 0 ≤ voted)) :
    Calls Try.prog 29 #[u, v, .int .i64 c, .int .u8 kind, .int .i64 voted] w (RecoGives m l c kind voted w) := by
  have hA := refCheckS S u m w hx
  have hB := fun W (hW : Below w.heap.size w W) => refCheck S v l c kind W (hy.same (.of_below hW))
  have hG := fun w' i h1 h2 (hb : Below w.heap.size w w') => RecoGives.none (m := m) (l := l) (c := c) (kind := kind) (voted := voted) (w := w) (w' := w') (i := i) h1 h2 hb
  obtain ⟨a1, cap1, rfl, -, -⟩ := RSl.shape hx
  obtain ⟨a2, cap2, rfl, -, -⟩ := RSl.shape hy
  have hr : recoI m l c kind voted = if chkS m = 0 then (if recCheck l c kind = 0 then (if voted < 0 then 2 else 0) else recCheck l c kind) else chkS m := rfl
  generalize chkS m = ra at *
  generalize recCheck l c kind = rb at *
  generalize recoI m l c kind voted = I at *
  have HA := Lib.hid hA; have HB := Lib.hid hB; have HG := Lib.hid hG; have Hr := Lib.hid hr; clear hA hB hG hr hx hy
  by_cases h0 : ra = 0
  case neg =>
    have hz0 : (ra != 0) = true := by simpa using h0
    have hI := Hr.out
    rw [if_neg h0] at hI
    have HI := Lib.hid hI; have H0 := Lib.hid h0; clear h0 hbad hI
    go_enter Try.func29, Try.ntmps29
    go_wp2_with (go_at_call 31; refine HA.out.mono ?_; rintro e w1 ⟨rfl, hb1⟩)
    go_ret2
    exact HG.out _ _ HI.out H0.out hb1
  subst h0
  have hz0 : ((0 : Int) != 0) = false := rfl
  by_cases h1 : rb = 0
  case neg =>
    have hz1 : (rb != 0) = true := by simpa using h1
    have hI := Hr.out
    rw [if_pos rfl, if_neg h1] at hI
    have HI := Lib.hid hI; have H1 := Lib.hid h1; clear h1 hbad hI
    go_enter Try.func29, Try.ntmps29
    go_wp2_with (first
      | (go_at_call 31; refine HA.out.mono ?_; rintro e w1 ⟨rfl, hb1⟩)
      | (go_at_call 40; refine (HB.out _ hb1).mono ?_; rintro e w2 ⟨rfl, hb2⟩))
    go_ret2
    exact HG.out _ _ HI.out H1.out (hb1.trans (hb2.mono hb1.size))
  subst h1
  have hv : voted < 0 := by omega
  have hI := Hr.out
  rw [if_pos rfl, if_pos rfl, if_pos hv] at hI
  have HI := Lib.hid hI; clear hbad hI
  go_enter Try.func29, Try.ntmps29
  go_wp2_with (first
    | (go_at_call 31; refine HA.out.mono ?_; rintro e w1 ⟨rfl, hb1⟩)
    | (go_at_call 40; refine (HB.out _ hb1).mono ?_; rintro e w2 ⟨rfl, hb2⟩))
  go_ret2
  exact HG.out _ _ HI.out (by omega) (hb1.trans (hb2.mono hb1.size))

theorem refOf2 (S : Nat → Prop) (v : Value) (m : List Slot) (nm : ByteArray) (w : World) (h : RSl S 2 dSlot w v m) :
    Calls Try.prog 78 #[v, .string nm] w fun e w' => e = .returned (.tuple #[.agg #[.string ((ofS m nm).getD zS).name, .int .i64 ((ofS m nm).getD zS).many], .bool (ofS m nm).isSome]) ∧ Below w.heap.size w w' := refOf S v m nm w h
set_option maxHeartbeats 4000000 in
set_option maxRecDepth 100000 in
theorem refReco_main (S : Nat → Prop) (u v : Value) (m : List Slot) (l : List Btc) (c kind voted : Int) (w : World) (hx : RSl S 2 dSlot w u m) (hy : RBtcs S w v l) (hlm : m.length ≤ 1000) (hsm : Small l) (hvw : (Lit.int .i64 voted).wf = true)
    (k1 : chkS m = 0) (k2 : recCheck l c kind = 0) (k3 : 0 ≤ voted) :
    Calls Try.prog 29 #[u, v, .int .i64 c, .int .u8 kind, .int .i64 voted] w (RecoGives m l c kind voted w) := by
  have hA := refCheckS S u m w hx
  have hB := fun W (hW : Below w.heap.size w W) => refCheck S v l c kind W (hy.same (.of_below hW))
  have hM := fun W (hW : Below w.heap.size w W) => refManifest S v l W (hy.same (.of_below hW)) hsm.1
  rw [k1] at hA
  rw [k2] at hB
  have hap := apart_of k2
  have hG := fun w' p lo ho (hlo : w.heap.size ≤ lo) (hb : Below w.heap.size w w') => RecoGives.some (m := m) (l := l) (c := c) (kind := kind) (voted := voted) (w := w) (w' := w') (v := p) (lo := lo) k1 k2 k3 ho hlo hb
  obtain ⟨a1, cap1, rfl, -, -⟩ := RSl.shape hx
  obtain ⟨a2, cap2, rfl, -, -⟩ := RSl.shape hy
  have hl1 := hsm.1
  have hml : (maniL l).length = l.length := by simp [maniL]
  have HA := Lib.hid hA; have HB := Lib.hid hB; have HM := Lib.hid hM; have HG := Lib.hid hG; have HX := Lib.hid hx; have HY := Lib.hid hy; have Hsm := Lib.hid hsm; have Hvw := Lib.hid hvw; have Hap := Lib.hid hap; have Hml := Lib.hid hml
  have hv0 := wf_i64 hvw
  clear hA hB hM hG hx hy hsm hvw k1 k2 hap hml
  have hz0 : ((0 : Int) != 0) = false := rfl
  go_enter Try.func29, Try.ntmps29
  go_wp2_with (first
    | (go_at_call 31; refine HA.out.mono ?_; rintro e w1 ⟨rfl, hb1⟩)
    | (go_at_call 40; refine (HB.out _ hb1).mono ?_; rintro e w2 ⟨rfl, hb2⟩; have hq2 := hb1.trans (hb2.mono hb1.size); have hl2 := hq2.size)
    | (go_at_call 34; refine (HM.out _ hq2).mono ?_; rintro e w3 ⟨v3, rfl, ho3, hb3⟩; have hq3 := hq2.trans (hb3.mono hl2); have hl3 := hq3.size; have hr3 := RSl.mono (T := From 0) (fun _ _ _ h => h) (fun _ _ => Nat.zero_le _) (Own.rsl ho3 (by rw [Hml.out]; omega)); obtain ⟨ao, co, e3⟩ := id (Own.shape ho3); rw [Hml.out] at e3; subst e3; have HO := Lib.hid hr3; clear ho3 hr3))
  have hX : ∀ W, Below w3.heap.size w3 W → RSl S 2 dSlot W (.slice a1 m.length cap1) m := fun W hW => RSl.same (dSlot.stable _) (.of_below hW) (RSl.same (dSlot.stable _) (.of_below hq3) HX.out)
  have hO : ∀ W, Below w3.heap.size w3 W → RSl (From 0) 2 dSlot W (.slice ao l.length co) (maniL l) := fun W hW => RSl.same (dSlot.stable _) (.of_below hW) HO.out
  have HXX := Lib.hid hX; have HOO := Lib.hid hO
  clear hX hO
  go_loopw [14, 15] (fun s i wr => ∃ (k : Nat) (a : Option Addr) (n cp : Nat), k ≤ m.length ∧ i = .int .i64 k ∧ s = .slice a n cp ∧ Hid (Own w3.heap.size 113 4 dFnd wr (.slice a n cp) ((m.take k).flatMap (fndM l))) ∧ Below w3.heap.size w3 wr) (fun _ i _ => m.length - (intOf i).toNat)
  case atStart => exact ⟨0, none, 0, 0, Nat.zero_le _, rfl, rfl, Lib.hid (Own.nil _ _ _ _ _), Below.refl _ _⟩
  case round =>
    obtain ⟨k, ax, n, cp, hk, rfl, rfl, hown, hb⟩ := hrel
    have hz := hb.size
    by_cases hlt : k < m.length
    · obtain ⟨b, off, c0, d0, rfl, hS, hbw, hc, hd, hx⟩ := RSl.at2 (HXX.out _ (Below.refl _ _)) k hlt
      obtain ⟨⟨rfl, rfl⟩, hnl, hwf⟩ := hx.open
      have hcr := (Same.of_below (S := Any) hb).cell trivial hc
      have hdr := (Same.of_below (S := Any) hb).cell trivial hd
      have hfs := flat_succ (fndM l) hlt
      have hfm : fndM l m[k] = match lastL l m[k].name.data.toList with | none => [⟨1, m[k].name, m[k].many, 0⟩] | some n => if n = m[k].many then [] else [⟨2, m[k].name, m[k].many, n⟩] := rfl
      have hll := flat_len (fndM l) (fndM_len l) (m.take k)
      have hll2 : ((m.take k).flatMap (fndM l)).length ≤ 100000000 := by rw [List.length_take] at hll; omega
      have hlo := fun j hj => (Own.lt hown.out j hj).1
      have hnb : some b ≠ (Value.slice ax n cp).ownBlock := fun he => by have := hlo b he.symm; omega
      obtain ⟨Lk, hLk⟩ : ∃ Lk, Lk = (m.take k).flatMap (fndM l) := ⟨_, rfl⟩
      rw [← hLk] at hfs hll hll2 hown
      clear hLk
      have hof := refOf2 (From 0) _ (maniL l) m[k].name wr (HOO.out _ hb)
      obtain ⟨hm1, hm2⟩ := ofS_mani Hap.out m[k].name
      rw [hm1] at hof
      obtain ⟨O, hO⟩ : ∃ O, O = (ofS (maniL l) m[k].name).getD zS := ⟨_, rfl⟩
      rw [← hO] at hof hm2
      have Hfs := Lib.hid hfs; have Hfm := Lib.hid hfm; have Hll2 := Lib.hid hll2; have Hlo := Lib.hid hlo; have Hnb := Lib.hid hnb; have Hwf := Lib.hid hwf; have Hnl := Lib.hid hnl
      have hwm := wf_i64 hwf
      clear hfs hfm hll hll2 hlo hnb hwf hx hm1 hO hc hd
      cases hla : lastL l m[k].name.data.toList with
      | none =>
        rw [hla] at hof
        have hfm := Hfm.out
        rw [hla] at hfm
        simp only at hfm
        have Hfm := Lib.hid hfm; have Hof := Lib.hid hof
        clear hla hfm hof hm2
        go_upto_region 16 with (go_at_call 78; refine Hof.out.mono ?_; rintro e w4 ⟨rfl, hb4⟩; have hz4 := hb4.size; have hc4 := (Same.of_below (S := Any) hb4).cell trivial hcr; have hd4 := (Same.of_below (S := Any) hb4).cell trivial hdr; have hbw4 : b < w4.heap.size := (by omega))
        have hb5 : Below wr.heap.size wr (w4.alloc (.cells #[.string O.name, .int .i64 O.many] 95)) := hb4.alloc hz4 _
        obtain ⟨w5, hw5⟩ : ∃ w5, w5 = (w4.alloc (.cells #[.string O.name, .int .i64 O.many] 95)) := ⟨_, rfl⟩
        rw [← hw5] at hb5 ⊢
        clear hw5 hc4 hd4
        have hc5 := (Same.of_below (S := Any) hb5).cell trivial hcr
        have hd5 := (Same.of_below (S := Any) hb5).cell trivial hdr
        have hz5 := hb5.size
        have hbw5 : b < w5.heap.size := by omega
        have hnw : Below wr.heap.size wr (w5.drew.alloc (.cells #[.int .u8 1, .string m[k].name, .int .i64 m[k].many, .int .i64 0] 113)) := (Below.drew hb5).alloc (by simp; omega) _
        have hOw := Own.below (S := fun _ => False) (dFnd.stable _) hown.out hnw
        have hu : RSl (From 0) 4 dFnd (w5.drew.alloc (.cells #[.int .u8 1, .string m[k].name, .int .i64 m[k].many, .int .i64 0] 113)) (.slice (some ⟨w5.heap.size, 0, none⟩) 1 1) [(⟨1, m[k].name, m[k].many, 0⟩ : Fnd)] := RSl.built (w := wr) (cs := [.int .u8 1, .string m[k].name, .int .i64 m[k].many, .int .i64 0]) (Nat.zero_le _) (box_new w5.drew _) rfl ⟨rfl, (show (Lit.int .u8 1).wf = true by decide), Hnl.out, Hwf.out, (show (Lit.int .i64 0).wf = true by decide)⟩
        have HOw := Lib.hid hOw; have Hu := Lib.hid hu; have Hnw := Lib.hid hnw
        clear hOw hu hnw
        go_region_held3 (fun w' => w'.cell? ⟨b, off + k * 2, none⟩ = some (.string m[k].name) ∧ w'.cell? ⟨b, off + k * 2 + 1, none⟩ = some (.int .i64 m[k].many))
            (first
              | go_keep
              | (go_split_ands
                 refine ⟨?_, ?_⟩
                 · exact hg.cell (by assumption) Hnb.out
                 · exact hg.cell (by assumption) Hnb.out))
            ((refine step_app _ Try.infoFnd rfl rfl Try.underlying41 ⟨rfl, by omega, by omega⟩ dFnd.one (dFnd.stable (fun _ => False)) w3.heap.size HOw.out rfl Hu.out rfl (by have := Hll2.out; simp only [List.length_cons, List.length_nil]; omega) (by simp; omega) ?_; intro a7 c7 w7 hg hat ho1))
        have ho2 := ho1 (fun _ _ h => h.elim)
        have hb7 := (hb.trans (Hnw.out.mono hz)).grown hg (by simp; omega) Hlo.out
        have Ho2 := Lib.hid ho2; have Hg := Lib.hid hg; have Hat := Lib.hid hat; clear ho1 ho2 hg hat
        go_wp2
        exact ⟨⟨k + 1, a7, _, c7, by omega, by go_num, rfl, Lib.hid (by have h3 := Ho2.out; rw [List.length_append] at h3; rw [Hfs.out, Hfm.out]; exact h3), hb7⟩, by simp [intOf]; omega⟩
      | some q =>
        rw [hla] at hof
        have hqb := lastL_wf Hsm.out hla
        have hOq := hm2 q hla
        have hfm := Hfm.out
        rw [hla] at hfm
        simp only at hfm
        have Hqw : Hid ((Lit.int .i64 q).wf = true) := Lib.hid (by obtain ⟨q', rfl⟩ : ∃ q' : Nat, q = q' := ⟨q.toNat, by omega⟩; exact wf_len (by omega))
        rw [hOq] at hof
        have Hof := Lib.hid hof
        clear hla hof hm2 hOq
        by_cases hqm : q = m[k].many
        · rw [if_pos hqm] at hfm
          have Hfm := Lib.hid hfm
          have hne : (q != m[k].many) = false := by simpa using hqm
          clear hfm hqm
          go_upto_region 17 with (go_at_call 78; refine Hof.out.mono ?_; rintro e w4 ⟨rfl, hb4⟩; have hz4 := hb4.size; have hc4 := (Same.of_below (S := Any) hb4).cell trivial hcr; have hd4 := (Same.of_below (S := Any) hb4).cell trivial hdr)
          have hb5 : Below wr.heap.size wr (w4.alloc (.cells #[.string O.name, .int .i64 q] 95)) := hb4.alloc hz4 _
          have hd5 := (Same.of_below (S := Any) hb5).cell trivial hdr
          have e1 := fun p => cell_ext (w := (w4.alloc (.cells #[.string O.name, .int .i64 q] 95))) hd5 p
          have e2 := fun p => cell_ext (w := (w4.alloc (.cells #[.string O.name, .int .i64 q] 95))) (a := ⟨w4.heap.size, 1, none⟩) (v := .int .i64 q) (by obtain ⟨-, h, -⟩ := own_box (Below.refl _ _) (size_of_box (box_new w4 (.cells #[.string O.name, .int .i64 q] 95))) (box_new w4 (.cells #[.string O.name, .int .i64 q] 95)); exact h 1) p
          refine wp_region_ext (by kernel_rfl) (by kernel_rfl) ?_
          repeat (go_big_quiet_step (fail))
          refine wpQuiet_nil ?_
          intro w6 hw'
          have hb6 : Below wr.heap.size wr w6 := by obtain ⟨p, rfl⟩ := hw'; exact hb5.trans ((below_ext _ p).mono hb5.size)
          clear hw' e1 e2
          have ho6 := Own.below (S := fun _ => False) (dFnd.stable _) hown.out hb6
          have Ho6 := Lib.hid ho6; clear ho6
          go_wp2
          exact ⟨⟨k + 1, ax, n, cp, by omega, by go_num, rfl, Lib.hid (by rw [Hfs.out, Hfm.out, List.append_nil]; exact Ho6.out), hb.trans (hb6.mono hz)⟩, by simp [intOf]; omega⟩
        · rw [if_neg hqm] at hfm
          have Hfm := Lib.hid hfm
          have hne : (q != m[k].many) = true := by simpa using hqm
          clear hfm hqm
          go_upto_region 17 with (go_at_call 78; refine Hof.out.mono ?_; rintro e w4 ⟨rfl, hb4⟩; have hz4 := hb4.size; have hc4 := (Same.of_below (S := Any) hb4).cell trivial hcr; have hd4 := (Same.of_below (S := Any) hb4).cell trivial hdr)
          have hb5 : Below wr.heap.size wr (w4.alloc (.cells #[.string O.name, .int .i64 q] 95)) := hb4.alloc hz4 _
          have hd5 := (Same.of_below (S := Any) hb5).cell trivial hdr
          have hq5 : (w4.alloc (.cells #[.string O.name, .int .i64 q] 95)).cell? ⟨w4.heap.size, 1, none⟩ = some (.int .i64 q) := by obtain ⟨-, h, -⟩ := own_box (Below.refl _ _) (size_of_box (box_new w4 (.cells #[.string O.name, .int .i64 q] 95))) (box_new w4 (.cells #[.string O.name, .int .i64 q] 95)); exact h 1
          have e1 := fun p => cell_ext (w := (w4.alloc (.cells #[.string O.name, .int .i64 q] 95))) hd5 p
          have e2 := fun p => cell_ext (w := (w4.alloc (.cells #[.string O.name, .int .i64 q] 95))) hq5 p
          have Hq5 := Lib.hid hq5; clear hq5
          refine wp_region_ext (by kernel_rfl) (by kernel_rfl) ?_
          repeat (go_big_quiet_step (fail))
          refine wpQuiet_nil ?_
          intro w6 hw'
          have hb6 : Below wr.heap.size wr w6 := by obtain ⟨p, rfl⟩ := hw'; exact hb5.trans ((below_ext _ p).mono hb5.size)
          have hc6 := (Same.of_below (S := Any) hb6).cell trivial hcr
          have hd6 := (Same.of_below (S := Any) hb6).cell trivial hdr
          have hq6 : w6.cell? ⟨w4.heap.size, 1, none⟩ = some (.int .i64 q) := by obtain ⟨p, rfl⟩ := hw'; exact cell_ext Hq5.out p
          have hz6 := hb6.size
          have hlt6 : w4.heap.size < w6.heap.size := lt_of_cell hq6
          have hbw6 : b < w6.heap.size := by omega
          have hnb2 : some w4.heap.size ≠ (Value.slice ax n cp).ownBlock := fun he => by have := (Own.lt hown.out _ he.symm).2; omega
          have Hnb2 := Lib.hid hnb2
          clear hw' e1 e2 hd5 hc4 hd4 hnb2
          go_upto_region 18 with (fail)
          have hnw : Below wr.heap.size wr (w6.drew.alloc (.cells #[.int .u8 2, .string m[k].name, .int .i64 m[k].many, .int .i64 q] 113)) := (Below.drew hb6).alloc (by simp; omega) _
          have hOw := Own.below (S := fun _ => False) (dFnd.stable _) hown.out hnw
          have hu : RSl (From 0) 4 dFnd (w6.drew.alloc (.cells #[.int .u8 2, .string m[k].name, .int .i64 m[k].many, .int .i64 q] 113)) (.slice (some ⟨w6.heap.size, 0, none⟩) 1 1) [(⟨2, m[k].name, m[k].many, q⟩ : Fnd)] := RSl.built (w := wr) (cs := [.int .u8 2, .string m[k].name, .int .i64 m[k].many, .int .i64 q]) (Nat.zero_le _) (box_new w6.drew _) rfl ⟨rfl, (show (Lit.int .u8 2).wf = true by decide), Hnl.out, Hwf.out, Hqw.out⟩
          have HOw := Lib.hid hOw; have Hu := Lib.hid hu; have Hnw := Lib.hid hnw
          clear hOw hu hnw
          go_region_held3 (fun w' => w'.cell? ⟨b, off + k * 2, none⟩ = some (.string m[k].name) ∧ w'.cell? ⟨b, off + k * 2 + 1, none⟩ = some (.int .i64 m[k].many) ∧ w'.cell? ⟨w4.heap.size, 1, none⟩ = some (.int .i64 q))
            (first
              | go_keep
              | (go_split_ands
                 refine ⟨?_, ?_, ?_⟩
                 · exact hg.cell (by assumption) Hnb.out
                 · exact hg.cell (by assumption) Hnb.out
                 · exact hg.cell (by assumption) Hnb2.out))
            ((refine step_app _ Try.infoFnd rfl rfl Try.underlying41 ⟨rfl, by omega, by omega⟩ dFnd.one (dFnd.stable (fun _ => False)) w3.heap.size HOw.out rfl Hu.out rfl (by have := Hll2.out; simp only [List.length_cons, List.length_nil]; omega) (by simp; omega) ?_; intro a7 c7 w7 hg hat ho1))
          have ho2 := ho1 (fun _ _ h => h.elim)
          have hb7 := (hb.trans (Hnw.out.mono hz)).grown hg (by simp; omega) Hlo.out
          have Ho2 := Lib.hid ho2; have Hg := Lib.hid hg; have Hat := Lib.hid hat; clear ho1 ho2 hg hat
          go_wp2
          exact ⟨⟨k + 1, a7, _, c7, by omega, by go_num, rfl, Lib.hid (by have h3 := Ho2.out; rw [List.length_append] at h3; rw [Hfs.out, Hfm.out]; exact h3), hb7⟩, by simp [intOf]; omega⟩
    · have hk' : k = m.length := by omega
      subst hk'
      have hol := hown.out
      rw [List.take_length] at hol
      have hlenM := flat_len (fndM l) (fndM_len l) m
      obtain ⟨LM, hLM⟩ : ∃ LM, LM = m.flatMap (fndM l) := ⟨_, rfl⟩
      rw [← hLM] at hol hlenM
      have Hol := Lib.hid hol; have HLM := Lib.hid hLM
      clear hol hown hLM
      go_wp2
      obtain ⟨wa, rfl⟩ : ∃ wa, wa = wr := ⟨_, rfl⟩
      go_loopw [14, 18, 19] (fun s al i wr => ∃ (k : Nat) (a : Option Addr) (n cp : Nat) (A : Int), k ≤ l.length ∧ i = .int .i64 k ∧ s = .slice a n cp ∧ al = .int .i64 A ∧ Hid (A = allN (l.take k)) ∧ 0 ≤ A ∧ A ≤ 1000000000000 ∧
        Hid (Own w3.heap.size 113 4 dFnd wr (.slice a n cp) (LM ++ (l.take k).flatMap (fndX m))) ∧ Below w3.heap.size w3 wr) (fun _ _ i _ => l.length - (intOf i).toNat)
      case atStart => exact ⟨0, ax, n, cp, 0, Nat.zero_le _, rfl, rfl, rfl, Lib.hid rfl, by omega, by omega, Lib.hid (by simpa using Hol.out), hb⟩
      case round =>
        clear Hol hb hz
        obtain ⟨k, ax, n, cp, A, hk, rfl, rfl, rfl, hA, hA0, hA1, hown, hb⟩ := hrel
        have hz := hb.size
        by_cases hlt : k < l.length
        · have hlt2 : k < (maniL l).length := by rw [Hml.out]; exact hlt
          obtain ⟨b, off, c0, d0, rfl, hS, hbw, hc, hd, hx⟩ := RSl.at2 (HOO.out _ (Below.refl _ _)) k hlt2
          have hmk : (maniL l)[k] = ⟨l[k].name, (l[k].blts.length : Int)⟩ := by simp [maniL]
          rw [hmk] at hx
          obtain ⟨⟨rfl, rfl⟩, hnl, hwf⟩ := hx.open
          simp only at hnl hwf
          have hbl : l[k].blts.length ≤ 1000000 := (Hsm.out.2 _ (List.getElem_mem hlt)).1
          have hcr := (Same.of_below (S := Any) hb).cell trivial hc
          have hdr := (Same.of_below (S := Any) hb).cell trivial hd
          have hnx := allN_succ hlt
          rw [← hA.out] at hnx
          have hbd := allN_bound Hsm.out (k + 1) (by omega)
          rw [hnx] at hbd
          have hbd0 : 0 ≤ A + (l[k].blts.length : Int) ∧ A + (l[k].blts.length : Int) ≤ 1000000000000 := by omega
          have hfs := flat_succ (fndX m) hlt
          have hfx0 : fndX m l[k] = if hasN m l[k].name.data.toList then [] else [⟨3, l[k].name, 0, (l[k].blts.length : Int)⟩] := rfl
          have hll := flat_len (fndX m) (fndX_len m) (l.take k)
          have hll2 : (LM ++ (l.take k).flatMap (fndX m)).length ≤ 100000000 := by rw [List.length_append]; rw [List.length_take] at hll; omega
          have hlo := fun j hj => (Own.lt hown.out j hj).1
          have hnb : some b ≠ (Value.slice ax n cp).ownBlock := fun he => by have := hlo b he.symm; omega
          have hfs2 : LM ++ (l.take (k + 1)).flatMap (fndX m) = (LM ++ (l.take k).flatMap (fndX m)) ++ fndX m l[k] := by rw [hfs, List.append_assoc]
          obtain ⟨Lk, hLk⟩ : ∃ Lk, Lk = LM ++ (l.take k).flatMap (fndX m) := ⟨_, rfl⟩
          rw [← hLk] at hfs2 hll2 hown
          clear hLk hfs
          have hfs := hfs2
          clear hfs2
          have hof := refOf2 S _ m l[k].name wr (HXX.out _ hb)
          rw [ofS_has] at hof
          obtain ⟨O, hO⟩ : ∃ O, O = (ofS m l[k].name).getD zS := ⟨_, rfl⟩
          rw [← hO] at hof
          have Hfs := Lib.hid hfs; have Hll2 := Lib.hid hll2; have Hlo := Lib.hid hlo; have Hnb := Lib.hid hnb; have Hwf := Lib.hid hwf; have Hnl := Lib.hid hnl; have Hnx := Lib.hid hnx
          clear hfs hll hll2 hlo hnb hwf hx hO hc hd hmk hnx hbd
          cases hh : hasN m l[k].name.data.toList
          · rw [hh] at hof hfx0
            have Hfx0 := Lib.hid hfx0; have Hof := Lib.hid hof
            clear hh hfx0 hof
            go_upto_region 26 with (go_at_call 78; refine Hof.out.mono ?_; rintro e w4 ⟨rfl, hb4⟩; have hz4 := hb4.size; have hc4 := (Same.of_below (S := Any) hb4).cell trivial hcr; have hd4 := (Same.of_below (S := Any) hb4).cell trivial hdr; have hbw4 : b < w4.heap.size := (by omega))
            have hb5 : Below wr.heap.size wr (w4.alloc (.cells #[.string O.name, .int .i64 O.many] 95)) := hb4.alloc hz4 _
            obtain ⟨w5, hw5⟩ : ∃ w5, w5 = (w4.alloc (.cells #[.string O.name, .int .i64 O.many] 95)) := ⟨_, rfl⟩
            rw [← hw5] at hb5 ⊢
            clear hw5 hc4 hd4
            have hc5 := (Same.of_below (S := Any) hb5).cell trivial hcr
            have hd5 := (Same.of_below (S := Any) hb5).cell trivial hdr
            have hz5 := hb5.size
            have hbw5 : b < w5.heap.size := by omega
            have hnw : Below wr.heap.size wr (w5.drew.alloc (.cells #[.int .u8 3, .string l[k].name, .int .i64 0, .int .i64 l[k].blts.length] 113)) := (Below.drew hb5).alloc (by simp; omega) _
            have hOw := Own.below (S := fun _ => False) (dFnd.stable _) hown.out hnw
            have hu : RSl (From 0) 4 dFnd (w5.drew.alloc (.cells #[.int .u8 3, .string l[k].name, .int .i64 0, .int .i64 l[k].blts.length] 113)) (.slice (some ⟨w5.heap.size, 0, none⟩) 1 1) [(⟨3, l[k].name, 0, (l[k].blts.length : Int)⟩ : Fnd)] := RSl.built (w := wr) (cs := [.int .u8 3, .string l[k].name, .int .i64 0, .int .i64 l[k].blts.length]) (Nat.zero_le _) (box_new w5.drew _) rfl ⟨rfl, (show (Lit.int .u8 3).wf = true by decide), Hnl.out, (show (Lit.int .i64 0).wf = true by decide), Hwf.out⟩
            have HOw := Lib.hid hOw; have Hu := Lib.hid hu; have Hnw := Lib.hid hnw
            clear hOw hu hnw
            go_region_held3 (fun w' => w'.cell? ⟨b, off + k * 2, none⟩ = some (.string l[k].name) ∧ w'.cell? ⟨b, off + k * 2 + 1, none⟩ = some (.int .i64 l[k].blts.length))
            (first
              | go_keep
              | (go_split_ands
                 refine ⟨?_, ?_⟩
                 · exact hg.cell (by assumption) Hnb.out
                 · exact hg.cell (by assumption) Hnb.out))
            ((refine step_app _ Try.infoFnd rfl rfl Try.underlying41 ⟨rfl, by omega, by omega⟩ dFnd.one (dFnd.stable (fun _ => False)) w3.heap.size HOw.out rfl Hu.out rfl (by have := Hll2.out; simp only [List.length_cons, List.length_nil]; omega) (by simp; omega) ?_; intro a7 c7 w7 hg hat ho1))
            have ho2 := ho1 (fun _ _ h => h.elim)
            have hb7 := (hb.trans (Hnw.out.mono hz)).grown hg (by simp; omega) Hlo.out
            have Ho2 := Lib.hid ho2; have Hg := Lib.hid hg; have Hat := Lib.hid hat; clear ho1 ho2 hg hat
            go_wp2
            exact ⟨⟨k + 1, a7, _, c7, _, by omega, by go_num, rfl, rfl, Lib.hid Hnx.out.symm, hbd0.1, hbd0.2, Lib.hid (by have h3 := Ho2.out; rw [List.length_append] at h3; rw [Hfs.out, Hfx0.out]; exact h3), hb7⟩, by simp [intOf]; omega⟩
          · have hfx0 : fndX m l[k] = [] := by rw [hfx0, hh]; rfl
            rw [hh] at hof
            have Hfx0 := Lib.hid hfx0; have Hof := Lib.hid hof
            clear hh hfx0 hof
            go_wp2_with (go_at_call 78; refine Hof.out.mono ?_; rintro e w4 ⟨rfl, hb4⟩; have hz4 := hb4.size; have hb5 : Below wr.heap.size wr (w4.alloc (.cells #[.string O.name, .int .i64 O.many] 95)) := hb4.alloc hz4 _; have ho5 := Own.below (S := fun _ => False) (dFnd.stable _) hown.out hb5; have Ho5 := Lib.hid ho5; clear ho5)
            exact ⟨⟨k + 1, ax, n, cp, _, by omega, by go_num, rfl, rfl, Lib.hid Hnx.out.symm, hbd0.1, hbd0.2, Lib.hid (by rw [Hfs.out, Hfx0.out, List.append_nil]; exact Ho5.out), hb.trans (hb5.mono hz)⟩, by simp [intOf]; omega⟩
        · have hk' : k = l.length := by omega
          subst hk'
          have hol := hown.out
          have hAl := hA.out
          rw [List.take_length] at hol hAl
          have hrl : recL m l voted = LM ++ l.flatMap (fndX m) ++ fndV A voted := by rw [recL, ← HLM.out, ← hAl]
          have hlenX := flat_len (fndX m) (fndX_len m) l
          have hll2 : (LM ++ l.flatMap (fndX m)).length ≤ 100000000 := by rw [List.length_append]; omega
          obtain ⟨Lk, hLk⟩ : ∃ Lk, Lk = LM ++ l.flatMap (fndX m) := ⟨_, rfl⟩
          rw [← hLk] at hol hrl hll2
          clear hLk
          have hlo := fun j hj => (Own.lt hol j hj).1
          have hqr : Below w.heap.size w wr := hq3.trans (hb.mono hl3)
          have hAw : Hid ((Lit.int .i64 A).wf = true) := Lib.hid (by obtain ⟨q', rfl⟩ : ∃ q' : Nat, A = q' := ⟨A.toNat, by omega⟩; exact wf_len (by omega))
          have Hol := Lib.hid hol; have Hrl := Lib.hid hrl; have Hll2 := Lib.hid hll2; have Hlo := Lib.hid hlo
          clear hol hown hAl hA hrl hll2 hlo hlenX hlenM
          by_cases hav : A = voted
          · have hne : (A != voted) = false := by simpa using hav
            have Hav := Lib.hid hav
            clear hav
            go_wp2
            go_ret2
            exact HG.out _ _ _ (by rw [Hrl.out, fndV, if_pos Hav.out, List.append_nil]; exact Hol.out) hl3 hqr
          · have hne : (A != voted) = true := by simpa using hav
            have Hav := Lib.hid hav
            clear hav
            have hOw := Own.below (S := fun _ => False) (dFnd.stable _) Hol.out (below_new wr (.cells #[.int .u8 4, .string ⟨#[]⟩, .int .i64 voted, .int .i64 A] 113))
            have hu : RSl (From 0) 4 dFnd (wr.alloc (.cells #[.int .u8 4, .string ⟨#[]⟩, .int .i64 voted, .int .i64 A] 113)) (.slice (some ⟨wr.heap.size, 0, none⟩) 1 1) [(⟨4, ⟨#[]⟩, voted, A⟩ : Fnd)] := RSl.built (w := wr) (cs := [.int .u8 4, .string ⟨#[]⟩, .int .i64 voted, .int .i64 A]) (Nat.zero_le _) (box_new _ _) rfl ⟨rfl, (show (Lit.int .u8 4).wf = true by decide), (show (0 : Nat) ≤ _ by omega), Hvw.out, hAw.out⟩
            have HOw := Lib.hid hOw; have Hu := Lib.hid hu
            clear hOw hu
            go_wp2_with (at_builtin; go_must (refine wpList_app _ Try.infoFnd rfl rfl Try.underlying41 ⟨rfl, by omega, by omega⟩ dFnd.one (dFnd.stable (fun _ => False)) w3.heap.size HOw.out rfl Hu.out rfl (by have := Hll2.out; simp only [List.length_cons, List.length_nil]; omega) (by simp; omega) ?_); intro a7 c7 w7 hg hat ho1; have ho2 := ho1 (fun _ _ h => h.elim); have hb7 := (hb.trans (below_new _ _ |>.mono hz)).grown hg (by simp; omega) Hlo.out; have Ho2 := Lib.hid ho2; have Hg := Lib.hid hg; have Hat := Lib.hid hat; clear ho1 ho2 hg hat)
            go_ret2
            exact HG.out _ _ _ (by have h3 := Ho2.out; rw [Hrl.out, fndV, if_neg Hav.out]; first | exact h3 | (rw [List.length_append] at h3; exact h3) | (rw [List.length_append, List.length_append] at h3; exact h3)) hl3 (hq3.trans (hb7.mono hl3))
theorem refReconcile (S : Nat → Prop) (u v : Value) (m : List Slot) (l : List Btc) (c kind voted : Int) (w : World) (hx : RSl S 2 dSlot w u m) (hy : RBtcs S w v l) (hlm : m.length ≤ 1000) (hsm : Small l) (hvw : (Lit.int .i64 voted).wf = true) :
    Calls Try.prog 29 #[u, v, .int .i64 c, .int .u8 kind, .int .i64 voted] w (RecoGives m l c kind voted w) := by
  by_cases h : chkS m = 0 ∧ recCheck l c kind = 0 ∧ 0 ≤ voted
  · exact refReco_main S u v m l c kind voted w hx hy hlm hsm hvw h.1 h.2.1 h.2.2
  · exact refReco_bad S u v m l c kind voted w hx hy h
end Go.Proofs.Ytkjgddcjhikdgaa
