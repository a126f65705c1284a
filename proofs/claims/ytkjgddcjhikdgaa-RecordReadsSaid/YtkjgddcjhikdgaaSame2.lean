/- The contract of the reference's comparison of batches. -/
import Derived.Test.YtkjgddcjhikdgaaSame
namespace Go.Proofs.Ytkjgddcjhikdgaa
open Go Go.RowKit Go.Shelf

set_option maxHeartbeats 2000000 in
theorem same26 (S T : Nat → Prop) (u v : Value) (xs ys : List Btc) (w : World) (hx : RBtcs S w u xs) (hy : RBtcs T w v ys) :
    Calls Try.prog 24 #[u, v] w fun e w' => e = .returned (.bool (eqL eqBtc xs ys)) ∧ Below w.heap.size w w' := by
  obtain ⟨a1, cap1, rfl, hx1, hx2⟩ := RSl.shape hx
  obtain ⟨a2, cap2, rfl, hy1, hy2⟩ := RSl.shape hy
  by_cases hl : xs.length = ys.length
  case neg =>
    have hl' : ((xs.length : Int) != (ys.length : Int)) = true := by simpa using (by omega : ¬ (xs.length : Int) = ys.length)
    have hr := eqL_ne_len (p := eqBtc) hl
    have Hr := Lib.hid hr; clear hr hl
    go_enter Try.func24, Try.ntmps24
    go_wp2
    go_ret
    exact ⟨ret_bool Hr.out.symm, Below.refl _ _⟩
  have hl' : ((xs.length : Int) != (ys.length : Int)) = false := by simpa using (by omega : (xs.length : Int) = ys.length)
  have Hl := Lib.hid hl; clear hl
  go_enter Try.func24, Try.ntmps24
  go_wp2
  go_loopw [5] (fun i wr => ∃ k : Nat, k ≤ xs.length ∧ i = .int .i64 k ∧ Hid (∀ j (h1 : j < xs.length) (h2 : j < ys.length), j < k → eqBtc xs[j] ys[j] = true) ∧ Below w.heap.size w wr) (fun i _ => xs.length - (intOf i).toNat)
  case atStart => exact ⟨0, Nat.zero_le _, rfl, Lib.hid (fun _ _ _ h => by omega), Below.refl _ _⟩
  case round =>
    obtain ⟨k, hk, rfl, hg, hb⟩ := hrel
    by_cases hlt : k < xs.length
    · have hlt2 : k < ys.length := by have := Hl.out; omega
      obtain ⟨b, off, c, d, rfl, hS, hbw, hc, hd, hdx⟩ := RSl.at2 hx k hlt
      obtain ⟨b2, off2, c2, d2, rfl, hS2, hbw2, hc2, hd2, hdy⟩ := RSl.at2 hy k hlt2
      obtain ⟨ax, capx, rfl, rfl, hlx1, hlx2, hIx⟩ := hdx.open
      obtain ⟨ay, capy, rfl, rfl, hly1, hly2, hIy⟩ := hdy.open
      have hc' := (Same.of_below (S := Any) hb).cell trivial hc
      have hd' := (Same.of_below (S := Any) hb).cell trivial hd
      have hc2' := (Same.of_below (S := Any) hb).cell trivial hc2
      have hd2' := (Same.of_below (S := Any) hb).cell trivial hd2
      have e1 := fun p => cell_ext (w := wr) hc' p
      have e2 := fun p => cell_ext (w := wr) hd' p
      have e3 := fun p => cell_ext (w := wr) hc2' p
      have e4 := fun p => cell_ext (w := wr) hd2' p
      have hne : eqBtc xs[k] ys[k] = false → eqL eqBtc xs ys = false := fun h => eqL_ne_at k hlt hlt2 h
      have Hne := Lib.hid hne; clear hne
      cases hnm : (xs[k].name.toList == ys[k].name.toList)
      · have hnm' : (xs[k].name.toList != ys[k].name.toList) = true := by simp [bne, hnm]
        have hr := Hne.out (by rw [eqBtc, sameName, hnm]; rfl)
        have Hr := Lib.hid hr; clear hr
        go_wp2
        refine wp_region_ext (by kernel_rfl) (by kernel_rfl) ?_
        repeat (go_big_quiet_step (fail))
        refine wpQuiet_nil ?_
        intro _ hw'; obtain ⟨p, rfl⟩ := hw'
        go_wp2
        go_ret
        exact ⟨ret_bool Hr.out.symm, hb.trans ((below_ext wr p).mono hb.size)⟩
      have hnm' : (xs[k].name.toList != ys[k].name.toList) = false := by simp [bne, hnm]
      by_cases hlb : xs[k].blts.length = ys[k].blts.length
      case neg =>
        have hlb' : ((xs[k].blts.length : Int) != (ys[k].blts.length : Int)) = true := by simpa using (by omega : ¬ (xs[k].blts.length : Int) = ys[k].blts.length)
        have hr := Hne.out (by rw [eqBtc, eqL_ne_len hlb, Bool.and_false])
        have Hr := Lib.hid hr; clear hr hlb
        go_wp2
        refine wp_region_ext (by kernel_rfl) (by kernel_rfl) ?_
        repeat (go_big_quiet_step (fail))
        refine wpQuiet_nil ?_
        intro _ hw'; obtain ⟨p, rfl⟩ := hw'
        go_wp2
        go_ret
        exact ⟨ret_bool Hr.out.symm, hb.trans ((below_ext wr p).mono hb.size)⟩
      have hlb' : ((xs[k].blts.length : Int) != (ys[k].blts.length : Int)) = false := by simpa using (by omega : (xs[k].blts.length : Int) = ys[k].blts.length)
      have Hlb := Lib.hid hlb; have Hnm := Lib.hid hnm; clear hlb
      go_wp2
      refine wp_region_ext (by kernel_rfl) (by kernel_rfl) ?_
      repeat (go_big_quiet_step (fail))
      refine wpQuiet_nil ?_
      intro _ hw'; obtain ⟨p, rfl⟩ := hw'
      have hbp : Below w.heap.size w (ext wr p) := hb.trans ((below_ext wr p).mono hb.size)
      clear hc' hd' hc2' hd2' e1 e2 e3 e4 hnm hnm' hlb'
      obtain ⟨w1, hw1⟩ : ∃ w1, w1 = ext wr p := ⟨_, rfl⟩
      rw [← hw1] at hbp ⊢
      clear hw1
      go_wp2
      go_loopw [6] (fun i wr => ∃ j : Nat, j ≤ xs[k].blts.length ∧ i = .int .i64 j ∧ Hid (∀ i (h1 : i < xs[k].blts.length) (h2 : i < ys[k].blts.length), i < j → eqBlt xs[k].blts[i] ys[k].blts[i] = true) ∧ Below w.heap.size w wr) (fun i _ => xs[k].blts.length - (intOf i).toNat)
      case atStart => exact ⟨0, Nat.zero_le _, rfl, Lib.hid (fun _ _ _ h => by omega), hbp⟩
      case round =>
        obtain ⟨j, hj, rfl, hgj, hbj⟩ := hrel
        have hc' := (Same.of_below (S := Any) hbj).cell trivial hc
        have hd' := (Same.of_below (S := Any) hbj).cell trivial hd
        have hc2' := (Same.of_below (S := Any) hbj).cell trivial hc2
        have hd2' := (Same.of_below (S := Any) hbj).cell trivial hd2
        by_cases hjl : j < xs[k].blts.length
        · have hjl2 : j < ys[k].blts.length := by have := Hlb.out; omega
          obtain ⟨b3, off3, c3, d3, rfl, hS3, hbw3, hc3, hd3, hx3⟩ := RSl.at2 hIx j hjl
          obtain ⟨b4, off4, c4, d4, rfl, hS4, hbw4, hc4, hd4, hx4⟩ := RSl.at2 hIy j hjl2
          have e1 := fun p => cell_ext (w := wr) hd' p
          have e2 := fun p => cell_ext (w := wr) hd2' p
          have e3 := fun p => cell_ext (w := wr) ((Same.of_below (S := Any) hbj).cell trivial hc3) p
          have e4 := fun p => cell_ext (w := wr) ((Same.of_below (S := Any) hbj).cell trivial hd3) p
          have e5 := fun p => cell_ext (w := wr) ((Same.of_below (S := Any) hbj).cell trivial hc4) p
          have e6 := fun p => cell_ext (w := wr) ((Same.of_below (S := Any) hbj).cell trivial hd4) p
          have hF := fun p => same08 S T _ _ _ _ (ext wr p) ⟨c3, d3, rfl, dBlt.stable S _ _ _ _ (.of_below (hbj.trans ((below_ext wr p).mono hbj.size))) hx3⟩ ⟨c4, d4, rfl, dBlt.stable T _ _ _ _ (.of_below (hbj.trans ((below_ext wr p).mono hbj.size))) hx4⟩
          cases hq : eqBlt xs[k].blts[j] ys[k].blts[j]
          · rw [hq] at hF
            have hr := Hne.out (by rw [eqBtc, eqL_ne_at j hjl hjl2 hq, Bool.and_false])
            have HF := Lib.hid hF; have Hr := Lib.hid hr; clear hF hr hq hc3 hd3 hc4 hd4
            go_wp2
            refine wp_region_ext (by kernel_rfl) (by kernel_rfl) ?_
            repeat (go_big_quiet_step ((go_at_call 26; have hh := HF.out; exact calls_ext (v := .bool false) (hh _))))
            refine wpQuiet_nil ?_
            intro _ hw'; obtain ⟨p, rfl⟩ := hw'
            go_wp2
            go_ret
            exact ⟨ret_bool Hr.out.symm, hbj.trans ((below_ext wr p).mono hbj.size)⟩
          · rw [hq] at hF
            have HF := Lib.hid hF; have Hq := Lib.hid hq; clear hF hq hc3 hd3 hc4 hd4
            go_wp2
            refine wp_region_ext (by kernel_rfl) (by kernel_rfl) ?_
            repeat (go_big_quiet_step ((go_at_call 26; have hh := HF.out; exact calls_ext (v := .bool true) (hh _))))
            refine wpQuiet_nil ?_
            intro _ hw'; obtain ⟨p, rfl⟩ := hw'
            go_wp2
            refine ⟨⟨j + 1, by omega, by go_num, Lib.hid (fun i h1 h2 hi => ?_), hbj.trans ((below_ext wr p).mono hbj.size)⟩, by simp [intOf]; omega⟩
            by_cases e : i = j
            · subst e; exact Hq.out
            · exact hgj.out i h1 h2 (by omega)
        · go_wp2
          refine ⟨⟨k + 1, by omega, by go_num, Lib.hid (fun i h1 h2 hi => ?_), hbj⟩, by simp [intOf]; omega⟩
          by_cases e : i = k
          · subst e
            rw [eqBtc, sameName, Hnm.out, Bool.true_and]
            exact eqL_of Hlb.out (fun i h1 h2 => hgj.out i h1 h2 (by omega))
          · exact hg.out i h1 h2 (by omega)
    · go_wp2
      go_ret
      exact ⟨ret_bool (eqL_of Hl.out (fun j h1 h2 => hg.out j h1 h2 (by omega))).symm, hb⟩
end Go.Proofs.Ytkjgddcjhikdgaa
