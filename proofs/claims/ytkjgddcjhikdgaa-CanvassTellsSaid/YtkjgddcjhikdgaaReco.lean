/- The contract of canvass.Reconcile. -/
import Derived.Test.YtkjgddcjhikdgaaRecoS
namespace Go.Proofs.Ytkjgddcjhikdgaa
open Go Go.RowKit Go.Shelf Go.Maps Go.WideMaps

set_option maxHeartbeats 1000000 in
theorem canvassReco_bad (S : Nat → Prop) (u v : Value) (m : List Slot) (l : List Btc) (c kind voted : Int) (w : World) (hx : RSl S 2 dSlot w u m) (hy : RBtcs S w v l) (hbad : ¬ (chkS m = 0 ∧ recCheck l c kind = 0 ∧ 0 ≤ voted)) :
    Calls Try.prog 28 #[u, v, .int .i64 c, .int .u8 kind, .int .i64 voted] w (RecoGives m l c kind voted w) := by
  have hA := canvassCheck S u m w hx
  have hB := fun W (hW : Below w.heap.size w W) => recordCheck S v l c kind W (hy.same (.of_below hW))
  have hG := fun w' i h1 h2 (hb : Below w.heap.size w w') => RecoGives.none (m := m) (l := l) (c := c) (kind := kind) (voted := voted) (w := w) (w' := w') (i := i) h1 h2 hb
  obtain ⟨a1, cap1, rfl, -, -⟩ := RSl.shape hx
  obtain ⟨a2, cap2, rfl, -, -⟩ := RSl.shape hy
  have hr : recoI m l c kind voted = if chkS m = 0 then (if recCheck l c kind = 0 then (if voted < 0 then 2 else 0) else recCheck l c kind) else chkS m := rfl
  generalize chkS m = ra at *
  generalize recCheck l c kind = rb at *
  generalize recoI m l c kind voted = I at *
  have HA := Lib.hid hA; have HB := Lib.hid hB; have HG := Lib.hid hG; have Hr := Lib.hid hr; clear hA hB hG hr hx hy
  by_cases h0 : ra = 0
  case neg =>
    have hz0 : (ra != 0) = true := by simpa using h0
    have hI := Hr.out
    rw [if_neg h0] at hI
    have HI := Lib.hid hI; have H0 := Lib.hid h0; clear h0 hbad hI
    go_enter Try.func28, Try.ntmps28
    go_wp2_with (go_at_call 30; refine HA.out.mono ?_; rintro e w1 ⟨rfl, hb1⟩)
    go_ret2
    exact HG.out _ _ HI.out H0.out hb1
  subst h0
  have hz0 : ((0 : Int) != 0) = false := rfl
  by_cases h1 : rb = 0
  case neg =>
    have hz1 : (rb != 0) = true := by simpa using h1
    have hI := Hr.out
    rw [if_pos rfl, if_neg h1] at hI
    have HI := Lib.hid hI; have H1 := Lib.hid h1; clear h1 hbad hI
    go_enter Try.func28, Try.ntmps28
    go_wp2_with (first
      | (go_at_call 30; refine HA.out.mono ?_; rintro e w1 ⟨rfl, hb1⟩)
      | (go_at_call 39; refine (HB.out _ hb1).mono ?_; rintro e w2 ⟨rfl, hb2⟩))
    go_ret2
    exact HG.out _ _ HI.out H1.out (hb1.trans (hb2.mono hb1.size))
  subst h1
  have hv : voted < 0 := by omega
  have hI := Hr.out
  rw [if_pos rfl, if_pos rfl, if_pos hv] at hI
  have HI := Lib.hid hI; clear hbad hI
  go_enter Try.func28, Try.ntmps28
  go_wp2_with (first
    | (go_at_call 30; refine HA.out.mono ?_; rintro e w1 ⟨rfl, hb1⟩)
    | (go_at_call 39; refine (HB.out _ hb1).mono ?_; rintro e w2 ⟨rfl, hb2⟩))
  go_ret2
  exact HG.out _ _ HI.out (by omega) (hb1.trans (hb2.mono hb1.size))

theorem has_upd {m : List Slot} {k : Nat} {x : Slot} {t : List Slot} {g : Lit → Option Lit} (ht : t = m.take k ++ [x]) (hg : ∀ L, isTrue (g (.string L)) = hasN (m.take k) L) (L : List UInt8) : isTrue (upd g (.string x.name.data.toList) (.bool true) (.string L)) = hasN t L := by
  subst ht
  by_cases he : L = x.name.data.toList
  · subst he; rw [upd_same]; simp [isTrue, hasN]
  · rw [upd_other g (fun h => he (by injection h)), hg L]
    have hne : decide (x.name.data.toList = L) = false := decide_eq_false fun h => he h.symm
    simp only [hasN, List.any_append, List.any_cons, List.any_nil, hne, Bool.or_false]
set_option maxHeartbeats 4000000 in
set_option maxRecDepth 100000 in
theorem canvassReco_main (S : Nat → Prop) (u v : Value) (m : List Slot) (l : List Btc) (c kind voted : Int) (w : World) (hx : RSl S 2 dSlot w u m) (hy : RBtcs S w v l) (hlm : m.length ≤ 1000) (hsm : Small l) (hvw : (Lit.int .i64 voted).wf = true)
    (k1 : chkS m = 0) (k2 : recCheck l c kind = 0) (k3 : 0 ≤ voted) :
    Calls Try.prog 28 #[u, v, .int .i64 c, .int .u8 kind, .int .i64 voted] w (RecoGives m l c kind voted w) := by
  have hA := canvassCheck S u m w hx
  have hB := fun W (hW : Below w.heap.size w W) => recordCheck S v l c kind W (hy.same (.of_below hW))
  rw [k1] at hA
  rw [k2] at hB
  have hG := fun w' p lo ho (hlo : w.heap.size ≤ lo) (hb : Below w.heap.size w w') => RecoGives.some (m := m) (l := l) (c := c) (kind := kind) (voted := voted) (w := w) (w' := w') (v := p) (lo := lo) k1 k2 k3 ho hlo hb
  obtain ⟨a1, cap1, rfl, -, -⟩ := RSl.shape hx
  obtain ⟨a2, cap2, rfl, -, -⟩ := RSl.shape hy
  have hl1 := hsm.1
  have hmm := @run_makeMap Try.prog
  have HA := Lib.hid hA; have HB := Lib.hid hB; have HG := Lib.hid hG; have HX := Lib.hid hx; have HY := Lib.hid hy; have Hsm := Lib.hid hsm; have Hvw := Lib.hid hvw
  have hv0 := wf_i64 hvw
  clear hA hB hG hx hy hsm hvw k1 k2
  have eg : ∀ args w, (callFunc 77 args).run Try.prog w = .ok (.enter 77 args) w := enters_of Try.func77 (by kernel_rfl) rfl
  have hz0 : ((0 : Int) != 0) = false := rfl
  go_enter Try.func28, Try.ntmps28
  go_wp2_with (first
    | (go_at_call 30; refine HA.out.mono ?_; rintro e w1 ⟨rfl, hb1⟩)
    | (go_at_call 39; refine (HB.out _ hb1).mono ?_; rintro e w2 ⟨rfl, hb2⟩; have hq2 := hb1.trans (hb2.mono hb1.size); have hl2 := hq2.size))
  clear hmm
  have Hm0 := Lib.hid (show MapF ((w2.alloc (.cells #[.slice none 0 0] 127)).alloc (.map #[] 0)) Try.prog 9 3 (w2.heap.size + 1) 0 (fun _ => none) by simpa using MapF.made (w2.alloc (.cells #[.slice none 0 0] 127)) Try.prog 9 3)
  have Hx0 := Lib.hid (box_old (.map #[] 0) (box_new w2 (.cells #[.slice none 0 0] 127)))
  have hq3 : Below w.heap.size w ((w2.alloc (.cells #[.slice none 0 0] 127)).alloc (.map #[] 0)) := (hq2.alloc hl2 _).alloc (by simp; omega) _
  go_loopw [17, 48] (fun al i wr => ∃ (k : Nat) (f : Lit → Option Lit) (A : Int), k ≤ l.length ∧ i = .int .i64 k ∧ al = .int .i64 A ∧ Hid (A = allN (l.take k)) ∧ 0 ≤ A ∧ A ≤ 1000000000000 ∧ Hid (MapF wr Try.prog 9 3 (w2.heap.size + 1) k f) ∧
    Hid (∀ L, f (.string L) = (lastL (l.take k) L).map (fun n => Lit.int .i64 n)) ∧ Hid (wr.heap[w2.heap.size]? = some (.cells #[.slice none 0 0] 127 (0, 0))) ∧ Below w.heap.size w wr) (fun _ i _ => l.length - (intOf i).toNat)
  case atStart => exact ⟨0, _, 0, Nat.zero_le _, rfl, rfl, Lib.hid rfl, by omega, by omega, Hm0, Lib.hid (fun L => rfl), Hx0, hq3⟩
  case round =>
    clear Hm0 Hx0 hq3
    obtain ⟨k, f, A, hk, rfl, rfl, hA, hA0, hA1, hmf, hfx, hbx, hb⟩ := hrel
    have hlr := hb.size
    have hlm1 := hmf.out.lt
    by_cases hlt : k < l.length
    · obtain ⟨b, off, c0, d0, rfl, hS, hbw, hc, hd, hx⟩ := RSl.at2 (RBtcs.same (.of_below hb) HY.out) k hlt
      obtain ⟨a3, cap3, rfl, rfl, hl3, hnl, -⟩ := hx.open
      have hbl : l[k].blts.length ≤ 1000000 := (Hsm.out.2 _ (List.getElem_mem hlt)).1
      have hkey : keyOf Try.prog 9 (.string l[k].name) = some (.string l[k].name.data.toList) := keyOf_string_mk Try.underlying9 (by unfold maxLen; omega)
      have hnx := allN_succ hlt
      rw [← hA.out] at hnx
      have hbd := allN_bound Hsm.out (k + 1) (by omega)
      rw [hnx] at hbd
      have hts : l.take (k + 1) = l.take k ++ [l[k]] := List.take_succ_eq_append_getElem hlt
      have hmf1 := hmf.out.below (below_new wr (.cells #[.string l[k].name, .slice a3 l[k].blts.length cap3] 64))
      have hbd0 : 0 ≤ A + (l[k].blts.length : Int) ∧ A + (l[k].blts.length : Int) ≤ 1000000000000 := by omega
      have Hkey := Lib.hid hkey; have Hnx := Lib.hid hnx; have Hts := Lib.hid hts; have Hmf1 := Lib.hid hmf1
      clear hkey hnx hbd hts hmf1 hx
      go_wp2_with (at_mapUpdate; refine wpList_mapF _ rfl _ _ _ 129 rfl 9 3 (string_keyed Try.underlying9) Try.underlying129 (w2.heap.size + 1) k f rfl Hmf1.out (by unfold maxLen; omega) _ _ _ rfl rfl Hkey.out trivial (.int .i64 l[k].blts.length) (plainElem_int Try.underlying3 (wf_len hl3)) ?_; intro w6 hm6 hg6; have gx6 := (hg6.block wr.heap.size (by simp) (by simp; omega)).trans (box_new wr (.cells #[.string l[k].name, .slice a3 l[k].blts.length cap3] 64)); obtain ⟨-, hc6, hf6⟩ := own_box (Below.refl _ _) (size_of_box gx6) gx6; have hlt6 := size_of_box gx6; have hb6 : Below w.heap.size w w6 := ((hb.alloc hlr _).grown hg6 (by simp; omega) (fun j hj => by cases hj; omega)); have hbx6 := (hg6.block w2.heap.size (by simp; omega) (by simp)).trans (box_old _ hbx.out); have Hm6 := Lib.hid hm6; have Hg6 := Lib.hid hg6; have Hbx6 := Lib.hid hbx6; clear hm6 hg6 gx6 hbx6)
      refine ⟨⟨k + 1, _, A + (l[k].blts.length : Int), by omega, by go_num, rfl, Lib.hid Hnx.out.symm, hbd0.1, hbd0.2, Hm6, Lib.hid (fun L => ?_), Hbx6, hb6⟩, by simp [intOf]; omega⟩
      rw [Hts.out, lastL_snoc]
      by_cases he : l[k].name.data.toList = L
      · subst he; rw [upd_same, if_pos rfl]; rfl
      · rw [upd_other f (fun h => he (by injection h with h; exact h.symm)), if_neg he, hfx.out L]
    · have hk' : k = l.length := by omega
      subst hk'
      have hfl := hfx.out
      have hAl := hA.out
      rw [List.take_length] at hfl hAl
      have Hfl := Lib.hid hfl; have HAl := Lib.hid hAl
      have hmm := @run_makeMap Try.prog
      clear hfl hAl hA hfx
      go_wp2
      clear hmm
      obtain ⟨wa, rfl⟩ : ∃ wa, wa = wr := ⟨_, rfl⟩
      have hb0 : Below w.heap.size w (wa.alloc (.map #[] 0)) := hb.alloc hlr _
      have hb0size : w.heap.size ≤ wa.heap.size := hlr
      have Hsz0 := Lib.hid (hmf.out.below (below_new wa (.map #[] 0)))
      have Hsl0 := Lib.hid (MapF.made wa Try.prog 9 4)
      have Hbx0 := Lib.hid (box_old (.map #[] 0) hbx.out)
      clear hmf hbx
      go_loopw [67] (fun i wr => ∃ (k : Nat) (g : Lit → Option Lit) (a : Option Addr) (n cp : Nat), k ≤ m.length ∧ i = .int .i64 k ∧ Hid (MapF wr Try.prog 9 3 (w2.heap.size + 1) l.length f) ∧ Hid (MapF wr Try.prog 9 4 wa.heap.size k g) ∧
        Hid (∀ L, isTrue (g (.string L)) = hasN (m.take k) L) ∧ Hid (wr.heap[w2.heap.size]? = some (.cells #[.slice a n cp] 127 (0, 0))) ∧ Hid (Own (wa.heap.size + 1) 113 4 dFnd wr (.slice a n cp) ((m.take k).flatMap (fndM l))) ∧ wa.heap.size + 1 ≤ wr.heap.size ∧ Below w.heap.size w wr) (fun i _ => m.length - (intOf i).toNat)
      case atStart => exact ⟨0, _, none, 0, 0, Nat.zero_le _, rfl, Hsz0, Hsl0, Lib.hid (fun L => by simp [isTrue, hasN]), Hbx0, Lib.hid (Own.nil _ _ _ _ _), by simp, hb0⟩
      case round =>
        clear Hsz0 Hsl0 Hbx0 hb0
        obtain ⟨k, g, ax, n, cp, hk, rfl, hsz, hsl, hgx, hbx, hown, hwr, hb⟩ := hrel
        have hlr := hb.size
        by_cases hlt : k < m.length
        · obtain ⟨b, off, c0, d0, rfl, hS, hbw, hc, hd, hx⟩ := RSl.at2 (RSl.same (dSlot.stable _) (.of_below hb) HX.out) k hlt
          obtain ⟨⟨rfl, rfl⟩, hnl, hwf⟩ := hx.open
          have hkey : keyOf Try.prog 9 (.string m[k].name) = some (.string m[k].name.data.toList) := keyOf_string_mk Try.underlying9 (by unfold maxLen; omega)
          have hts : m.take (k + 1) = m.take k ++ [m[k]] := List.take_succ_eq_append_getElem hlt
          have hfs := flat_succ (fndM l) hlt
          have hfm : fndM l m[k] = match lastL l m[k].name.data.toList with | none => [⟨1, m[k].name, m[k].many, 0⟩] | some n => if n = m[k].many then [] else [⟨2, m[k].name, m[k].many, n⟩] := rfl
          have hll := flat_len (fndM l) (fndM_len l) (m.take k)
          have hll2 : ((m.take k).flatMap (fndM l)).length ≤ 100000000 := by rw [List.length_take] at hll; omega
          have hsl1 := hsl.out.below (below_new wr (.cells #[.string m[k].name, .int .i64 m[k].many] 95))
          have hsz1 := hsz.out.below (below_new wr (.cells #[.string m[k].name, .int .i64 m[k].many] 95))
          have hlook := fun W (hW : MapF W Try.prog 9 3 (w2.heap.size + 1) l.length f) => hW.look_ok (string_keyed Try.underlying9) Try.underlying129 Try.underlying3 (by kernel_rfl) hkey
          have hfk := Hfl.out m[k].name.data.toList
          have hbx1 := box_old (.cells #[.string m[k].name, .int .i64 m[k].many] 95) hbx.out
          have hown1 := Own.below (S := fun _ => False) (dFnd.stable _) hown.out (below_new wr (.cells #[.string m[k].name, .int .i64 m[k].many] 95))
          have hobn : (Value.slice ax n cp).ownBlock = none ∨ (Value.slice ax n cp).ownBlock ≠ some wa.heap.size := .inr (fun he => by have := (Own.lt hown.out _ he).1; omega)
          have Hkey := Lib.hid hkey; have Hts := Lib.hid hts; have Hfs := Lib.hid hfs; have Hfm := Lib.hid hfm; have Hll2 := Lib.hid hll2; have Hsl1 := Lib.hid hsl1; have Hsz1 := Lib.hid hsz1; have Hlook := Lib.hid hlook; have Hfk := Lib.hid hfk; have Hwf := Lib.hid hwf; have Hbx1 := Lib.hid hbx1; have Hown1 := Lib.hid hown1; have Hobn := Lib.hid hobn; have Hnl := Lib.hid hnl
          have hwm := wf_i64 hwf
          clear hkey hts hfs hfm hll hll2 hsl1 hsz1 hlook hfk hwf hx hbx1 hown1 hobn hsz hsl hbx hown
          cases hla : lastL l m[k].name.data.toList with
          | none =>
            have hfn : f (.string m[k].name.data.toList) = none := by rw [Hfk.out, hla]; rfl
            have hfm := Hfm.out
            rw [hla] at hfm
            simp only at hfm
            have Hfm := Lib.hid hfm; have Hfn := Lib.hid hfn
            clear hla hfn hfm
            go_wp2_with (first
              | (at_mapUpdate; refine wpList_mapF _ rfl _ _ _ 130 rfl 9 4 (string_keyed Try.underlying9) Try.underlying130 wa.heap.size k g rfl Hsl1.out (by unfold maxLen; omega) _ _ _ rfl rfl Hkey.out trivial (.bool true) (plainElem_bool Try.underlying4 true) ?_; intro w6 hm6 hg6; have gx6 := (hg6.block wr.heap.size (by simp) (by simp; omega)).trans (box_new wr (.cells #[.string m[k].name, .int .i64 m[k].many] 95)); obtain ⟨-, hc6, hf6⟩ := own_box (Below.refl _ _) (size_of_box gx6) gx6; have hlt6 := size_of_box gx6; have hsz6 := Hsz1.out.kept hg6 (by simp; omega); have hlk6 := (Hlook.out w6 hsz6).1 Hfn.out; have hb6 : Below w.heap.size w w6 := ((hb.alloc hlr _).grown hg6 (by simp; omega) (fun j hj => by cases hj; omega)); have hbx6 := (hg6.block w2.heap.size (by simp; omega) (by simp; omega)).trans Hbx1.out; have hown6 := Own.kept (S := fun _ => False) (dFnd.stable _) Hown1.out hg6 Hobn.out (fun _ _ h => h.elim); have Hm6 := Lib.hid hm6; have Hsz6 := Lib.hid hsz6; have Hbx6 := Lib.hid hbx6; have Hown6 := Lib.hid hown6; clear hm6 hg6 gx6 hsz6 hbx6 hown6)
              | (go_at_fn 77; refine (putF w2.heap.size (wa.heap.size + 1) n ax cp _ ⟨1, m[k].name, m[k].many, 0⟩ w6 Hbx6.out (by omega) (by omega) Hown6.out Hll2.out (show (Lit.int .u8 1).wf = true by decide) Hnl.out Hwf.out (show (Lit.int .i64 0).wf = true by decide)).mono ?_; rintro e w7 ⟨⟨u7, rfl⟩, a7, c7, hbx7, hown7, hfr7⟩; have hb7 := hfr7.below hl2 (by omega) hb6; have hs7 := hfr7.2.2.2.1; have hm7 := Hm6.out.block (hfr7.2.2.2.2 wa.heap.size (by omega) (by omega)); have hsz7 := Hsz6.out.block (hfr7.2.2.2.2 (w2.heap.size + 1) (by omega) (by omega)); have Hbx7 := Lib.hid hbx7; have Hown7 := Lib.hid hown7; have Hm7 := Lib.hid hm7; have Hsz7 := Lib.hid hsz7; have Hfr7 := Lib.hid hfr7; clear hbx7 hown7 hm7 hsz7 hfr7))
            refine ⟨⟨k + 1, _, a7, n + 1, c7, by omega, by go_num, Hsz7, Hm7, Lib.hid (fun L => ?_), Hbx7, Lib.hid (by rw [Hfs.out, Hfm.out]; exact Hown7.out), by omega, hb7⟩, by simp [intOf]; omega⟩
            exact has_upd Hts.out hgx.out L
          | some q =>
            have hfn : f (.string m[k].name.data.toList) = some (.int .i64 q) := by rw [Hfk.out, hla]; rfl
            have hqb := lastL_wf Hsm.out hla
            have hfm := Hfm.out
            rw [hla] at hfm
            simp only at hfm
            have Hfn := Lib.hid hfn
            have Hqw : Hid ((Lit.int .i64 q).wf = true) := Lib.hid (by obtain ⟨q', rfl⟩ : ∃ q' : Nat, q = q' := ⟨q.toNat, by omega⟩; exact wf_len (by omega))
            by_cases hqm : q = m[k].many
            · rw [if_pos hqm] at hfm
              have Hfm := Lib.hid hfm
              have hne : (q != m[k].many) = false := by simpa using hqm
              have Hqm := Lib.hid hqm
              clear hla hfn hfm hqm
              go_wp2_with (at_mapUpdate; refine wpList_mapF _ rfl _ _ _ 130 rfl 9 4 (string_keyed Try.underlying9) Try.underlying130 wa.heap.size k g rfl Hsl1.out (by unfold maxLen; omega) _ _ _ rfl rfl Hkey.out trivial (.bool true) (plainElem_bool Try.underlying4 true) ?_; intro w6 hm6 hg6; have gx6 := (hg6.block wr.heap.size (by simp) (by simp; omega)).trans (box_new wr (.cells #[.string m[k].name, .int .i64 m[k].many] 95)); obtain ⟨-, hc6, hf6⟩ := own_box (Below.refl _ _) (size_of_box gx6) gx6; have hlt6 := size_of_box gx6; have hsz6 := Hsz1.out.kept hg6 (by simp; omega); have hlk6 := (Hlook.out w6 hsz6).2 q Hfn.out; have hb6 : Below w.heap.size w w6 := ((hb.alloc hlr _).grown hg6 (by simp; omega) (fun j hj => by cases hj; omega)); have hbx6 := (hg6.block w2.heap.size (by simp; omega) (by simp; omega)).trans Hbx1.out; have hown6 := Own.kept (S := fun _ => False) (dFnd.stable _) Hown1.out hg6 Hobn.out (fun _ _ h => h.elim); have Hm6 := Lib.hid hm6; have Hsz6 := Lib.hid hsz6; have Hbx6 := Lib.hid hbx6; have Hown6 := Lib.hid hown6; clear hm6 hg6 gx6 hsz6 hbx6 hown6)
              refine ⟨⟨k + 1, _, ax, n, cp, by omega, by go_num, Hsz6, Hm6, Lib.hid (fun L => ?_), Hbx6, Lib.hid (by rw [Hfs.out, Hfm.out, List.append_nil]; exact Hown6.out), by omega, hb6⟩, by simp [intOf]; omega⟩
              exact has_upd Hts.out hgx.out L
            · rw [if_neg hqm] at hfm
              have Hfm := Lib.hid hfm
              have hne : (q != m[k].many) = true := by simpa using hqm
              have Hqm := Lib.hid hqm
              clear hla hfn hfm hqm
              go_wp2_with (first
                | (at_mapUpdate; refine wpList_mapF _ rfl _ _ _ 130 rfl 9 4 (string_keyed Try.underlying9) Try.underlying130 wa.heap.size k g rfl Hsl1.out (by unfold maxLen; omega) _ _ _ rfl rfl Hkey.out trivial (.bool true) (plainElem_bool Try.underlying4 true) ?_; intro w6 hm6 hg6; have gx6 := (hg6.block wr.heap.size (by simp) (by simp; omega)).trans (box_new wr (.cells #[.string m[k].name, .int .i64 m[k].many] 95)); obtain ⟨-, hc6, hf6⟩ := own_box (Below.refl _ _) (size_of_box gx6) gx6; have hlt6 := size_of_box gx6; have hsz6 := Hsz1.out.kept hg6 (by simp; omega); have hlk6 := (Hlook.out w6 hsz6).2 q Hfn.out; have hb6 : Below w.heap.size w w6 := ((hb.alloc hlr _).grown hg6 (by simp; omega) (fun j hj => by cases hj; omega)); have hbx6 := (hg6.block w2.heap.size (by simp; omega) (by simp; omega)).trans Hbx1.out; have hown6 := Own.kept (S := fun _ => False) (dFnd.stable _) Hown1.out hg6 Hobn.out (fun _ _ h => h.elim); have Hm6 := Lib.hid hm6; have Hsz6 := Lib.hid hsz6; have Hbx6 := Lib.hid hbx6; have Hown6 := Lib.hid hown6; clear hm6 hg6 gx6 hsz6 hbx6 hown6)
                | (go_at_fn 77; refine (putF w2.heap.size (wa.heap.size + 1) n ax cp _ ⟨2, m[k].name, m[k].many, q⟩ w6 Hbx6.out (by omega) (by omega) Hown6.out Hll2.out (show (Lit.int .u8 2).wf = true by decide) Hnl.out Hwf.out Hqw.out).mono ?_; rintro e w7 ⟨⟨u7, rfl⟩, a7, c7, hbx7, hown7, hfr7⟩; have hb7 := hfr7.below hl2 (by omega) hb6; have hs7 := hfr7.2.2.2.1; have hm7 := Hm6.out.block (hfr7.2.2.2.2 wa.heap.size (by omega) (by omega)); have hsz7 := Hsz6.out.block (hfr7.2.2.2.2 (w2.heap.size + 1) (by omega) (by omega)); have Hbx7 := Lib.hid hbx7; have Hown7 := Lib.hid hown7; have Hm7 := Lib.hid hm7; have Hsz7 := Lib.hid hsz7; have Hfr7 := Lib.hid hfr7; clear hbx7 hown7 hm7 hsz7 hfr7))
              refine ⟨⟨k + 1, _, a7, n + 1, c7, by omega, by go_num, Hsz7, Hm7, Lib.hid (fun L => ?_), Hbx7, Lib.hid (by rw [Hfs.out, Hfm.out]; exact Hown7.out), by omega, hb7⟩, by simp [intOf]; omega⟩
              exact has_upd Hts.out hgx.out L
        · have hk' : k = m.length := by omega
          subst hk'
          have hgl := hgx.out
          have hol := hown.out
          rw [List.take_length] at hgl hol
          have Hgl := Lib.hid hgl; have Hol := Lib.hid hol
          clear hgl hol hgx hown hsz
          have hlenM := flat_len (fndM l) (fndM_len l) m
          go_wp2
          obtain ⟨wb, rfl⟩ : ∃ wb, wb = wr := ⟨_, rfl⟩
          obtain ⟨LM, hLM⟩ : ∃ LM, LM = m.flatMap (fndM l) := ⟨_, rfl⟩
          rw [← hLM] at Hol hlenM
          have HLM := Lib.hid hLM; clear hLM
          go_loopw [105] (fun i wr => ∃ (k : Nat) (a : Option Addr) (n cp : Nat), k ≤ l.length ∧ i = .int .i64 k ∧ Hid (MapF wr Try.prog 9 4 wa.heap.size m.length g) ∧
            Hid (wr.heap[w2.heap.size]? = some (.cells #[.slice a n cp] 127 (0, 0))) ∧ Hid (Own (wa.heap.size + 1) 113 4 dFnd wr (.slice a n cp) (LM ++ (l.take k).flatMap (fndX m))) ∧ wa.heap.size + 1 ≤ wr.heap.size ∧ Below w.heap.size w wr) (fun i _ => l.length - (intOf i).toNat)
          case atStart => exact ⟨0, ax, n, cp, Nat.zero_le _, rfl, hsl, hbx, Lib.hid (by simpa using Hol.out), hwr, hb⟩
          case round =>
            clear hsl hbx hwr hb Hol
            obtain ⟨k, ax, n, cp, hk, rfl, hsl, hbx, hown, hwr, hb⟩ := hrel
            have hlr := hb.size
            by_cases hlt : k < l.length
            · obtain ⟨b, off, c0, d0, rfl, hS, hbw, hc, hd, hx⟩ := RSl.at2 (RBtcs.same (.of_below hb) HY.out) k hlt
              obtain ⟨a3, cap3, rfl, rfl, hl3, hnl, -⟩ := hx.open
              have hkey : keyOf Try.prog 9 (.string l[k].name) = some (.string l[k].name.data.toList) := keyOf_string_mk Try.underlying9 (by unfold maxLen; omega)
              have hfs := flat_succ (fndX m) hlt
              have hfx0 : fndX m l[k] = if hasN m l[k].name.data.toList then [] else [⟨3, l[k].name, 0, (l[k].blts.length : Int)⟩] := rfl
              have hll := flat_len (fndX m) (fndX_len m) (l.take k)
              have hll2 : (LM ++ (l.take k).flatMap (fndX m)).length ≤ 100000000 := by rw [List.length_append]; rw [List.length_take] at hll; omega
              have hlk := ((hsl.out.below (below_new wr (.cells #[.string l[k].name, .slice a3 l[k].blts.length cap3] 64))).look_bool (string_keyed Try.underlying9) Try.underlying130 Try.underlying4 (by kernel_rfl) hkey)
              have hsl1 := hsl.out.below (below_new wr (.cells #[.string l[k].name, .slice a3 l[k].blts.length cap3] 64))
              rw [Hgl.out] at hlk
              have hbx1 := box_old (.cells #[.string l[k].name, .slice a3 l[k].blts.length cap3] 64) hbx.out
              have hown1 := Own.below (S := fun _ => False) (dFnd.stable _) hown.out (below_new wr (.cells #[.string l[k].name, .slice a3 l[k].blts.length cap3] 64))
              have hb1 : Below w.heap.size w (wr.alloc (.cells #[.string l[k].name, .slice a3 l[k].blts.length cap3] 64)) := hb.alloc hlr _
              have Hfs := Lib.hid hfs; have Hll2 := Lib.hid hll2; have Hsl1 := Lib.hid hsl1; have Hbx1 := Lib.hid hbx1; have Hown1 := Lib.hid hown1; have Hnl := Lib.hid hnl; have Hl3 := Lib.hid hl3; have Hb1 := Lib.hid hb1
              clear hkey hfs hll hll2 hsl1 hx hbx1 hown1 hsl hbx hown hb1
              cases hh : hasN m l[k].name.data.toList
              · rw [hh] at hlk hfx0
                have Hfx0 := Lib.hid hfx0
                clear hh hfx0
                go_wp2_with (go_at_fn 77; refine (putF w2.heap.size (wa.heap.size + 1) n ax cp _ ⟨3, l[k].name, 0, (l[k].blts.length : Int)⟩ _ Hbx1.out (by omega) (by simp; omega) Hown1.out Hll2.out (show (Lit.int .u8 3).wf = true by decide) Hnl.out (show (Lit.int .i64 0).wf = true by decide) (wf_len Hl3.out)).mono ?_; rintro e w7 ⟨⟨u7, rfl⟩, a7, c7, hbx7, hown7, hfr7⟩; have hb7 := hfr7.below hl2 (by omega) Hb1.out; have hs7 := hfr7.2.2.2.1; have hm7 := Hsl1.out.block (hfr7.2.2.2.2 wa.heap.size (by omega) (by omega)); have Hbx7 := Lib.hid hbx7; have Hown7 := Lib.hid hown7; have Hm7 := Lib.hid hm7; have Hfr7 := Lib.hid hfr7; clear hbx7 hown7 hm7 hfr7)
                exact ⟨⟨k + 1, a7, n + 1, c7, by omega, by go_num, Hm7, Hbx7, Lib.hid (by rw [Hfs.out, Hfx0.out, ← List.append_assoc]; exact Hown7.out), by simp at hs7; omega, hb7⟩, by simp [intOf]; omega⟩
              · rw [hh] at hlk hfx0
                have Hfx0 := Lib.hid hfx0
                clear hh hfx0
                go_wp2
                exact ⟨⟨k + 1, ax, n, cp, by omega, by go_num, Hsl1, Hbx1, Lib.hid (by rw [Hfs.out, Hfx0.out, if_pos rfl, List.append_nil]; exact Hown1.out), by simp; omega, Hb1.out⟩, by simp [intOf]; omega⟩
            · have hk' : k = l.length := by omega
              subst hk'
              have hol := hown.out
              rw [List.take_length] at hol
              have Hol := Lib.hid hol
              have hrl : recL m l voted = LM ++ l.flatMap (fndX m) ++ fndV A voted := by rw [recL, ← HLM.out, ← HAl.out]
              have Hrl := Lib.hid hrl
              have hlenX := flat_len (fndX m) (fndX_len m) l
              have hll2 : (LM ++ l.flatMap (fndX m)).length ≤ 100000000 := by rw [List.length_append]; omega
              have Hll2 := Lib.hid hll2
              obtain ⟨-, hcb, hfb⟩ := own_box (Below.refl _ _) (size_of_box hbx.out) hbx.out
              have hAw : Hid ((Lit.int .i64 A).wf = true) := Lib.hid (by obtain ⟨q', rfl⟩ : ∃ q' : Nat, A = q' := ⟨A.toNat, by omega⟩; exact wf_len (by omega))
              clear hol hown hrl hll2 hlenX hlenM
              by_cases hav : A = voted
              · have hne : (A != voted) = false := by simpa using hav
                have Hav := Lib.hid hav
                clear hav
                go_wp2
                go_ret2
                exact HG.out _ _ _ (by rw [Hrl.out, fndV, if_pos Hav.out, List.append_nil]; exact Hol.out) (by have := hb0size; omega) hb
              · have hne : (A != voted) = true := by simpa using hav
                have Hav := Lib.hid hav
                clear hav
                go_wp2_with (go_at_fn 77; refine (putF w2.heap.size (wa.heap.size + 1) n ax cp _ ⟨4, ⟨#[]⟩, voted, A⟩ _ hbx.out (by omega) (by omega) Hol.out Hll2.out (show (Lit.int .u8 4).wf = true by decide) (show (0 : Nat) ≤ _ by omega) Hvw.out hAw.out).mono ?_; rintro e w7 ⟨⟨u7, rfl⟩, a7, c7, hbx7, hown7, hfr7⟩; have hb7 := hfr7.below hl2 (by omega) hb; obtain ⟨-, hcb7, hfb7⟩ := own_box (Below.refl _ _) (size_of_box hbx7) hbx7; have hlt7 := size_of_box hbx7; have Hown7 := Lib.hid hown7; have Hfr7 := Lib.hid hfr7; clear hbx7 hown7 hfr7)
                go_ret2
                exact HG.out _ _ _ (by rw [Hrl.out, fndV, if_neg Hav.out]; exact Hown7.out) (by have := hb0size; omega) hb7
theorem canvassReconcile (S : Nat → Prop) (u v : Value) (m : List Slot) (l : List Btc) (c kind voted : Int) (w : World) (hx : RSl S 2 dSlot w u m) (hy : RBtcs S w v l) (hlm : m.length ≤ 1000) (hsm : Small l) (hvw : (Lit.int .i64 voted).wf = true) :
    Calls Try.prog 28 #[u, v, .int .i64 c, .int .u8 kind, .int .i64 voted] w (RecoGives m l c kind voted w) := by
  by_cases h : chkS m = 0 ∧ recCheck l c kind = 0 ∧ 0 ≤ voted
  · exact canvassReco_main S u v m l c kind voted w hx hy hlm hsm hvw h.1 h.2.1 h.2.2
  · exact canvassReco_bad S u v m l c kind voted w hx hy h
end Go.Proofs.Ytkjgddcjhikdgaa
