/- The contract of the reference's record Check. -/
import Derived.Test.YtkjgddcjhikdgaaRef26
namespace Go.Proofs.Ytkjgddcjhikdgaa
open Go Go.RowKit Go.Shelf

set_option maxHeartbeats 1000000 in
theorem refCheck_arg (v : Value) (c kind : Int) (w : World) (hbad : ¬ (1 ≤ c ∧ c ≤ 10 ∧ 1 ≤ kind ∧ kind ≤ 3)) :
    Calls Try.prog 40 #[v, .int .i64 c, .int .u8 kind] w fun e w' => e = .returned (.int .i64 2) ∧ Below w.heap.size w w' := by
  by_cases h1 : c < 1
  · clear hbad
    go_enter Try.func40, Try.ntmps40
    go_wp2
    go_ret
    exact ⟨rfl, Below.refl _ _⟩
  by_cases h2 : 10 < c
  · clear hbad
    go_enter Try.func40, Try.ntmps40
    go_wp2
    go_ret
    exact ⟨rfl, Below.refl _ _⟩
  by_cases h3 : kind < 1
  · clear hbad
    go_enter Try.func40, Try.ntmps40
    go_wp2
    go_ret
    exact ⟨rfl, Below.refl _ _⟩
  have h4 : 3 < kind := by omega
  clear hbad
  go_enter Try.func40, Try.ntmps40
  go_wp2
  go_ret
  exact ⟨rfl, Below.refl _ _⟩

theorem all_range_succ (p : Nat → Bool) (k : Nat) : (List.range (k + 1)).all p = ((List.range k).all p && p k) := by
  rw [List.range_succ, List.all_append]; simp

set_option maxHeartbeats 2000000 in
theorem refCheck_rest (S : Nat → Prop) (v : Value) (l : List Btc) (c kind : Int) (w : World) (h : RBtcs S w v l) (hcc1 : 1 ≤ c) (hcc2 : c ≤ 10) (hk1 : 1 ≤ kind) (hk2 : kind ≤ 3) :
    Calls Try.prog 40 #[v, .int .i64 c, .int .u8 kind] w fun e w' => e = .returned (.int .i64 (recCheck l c kind)) ∧ Below w.heap.size w w' := by
  have hr : recCheck l c kind = if 16 < l.length ∨ l.any (fun b => decide (64 < b.blts.length)) = true then 4 else if (List.range l.length).all (okAt l c kind) then 0 else 8 := by
    rw [recCheck, if_pos ⟨hcc1, hcc2, hk1, hk2⟩]
  obtain ⟨a, cap, rfl, h1, h2⟩ := RSl.shape h
  by_cases h16 : 16 < l.length
  · rw [if_pos (.inl h16)] at hr
    have Hr := Lib.hid hr; clear hr
    go_enter Try.func40, Try.ntmps40
    go_wp2
    go_ret
    exact ⟨ret_int Hr.out.symm, Below.refl _ _⟩
  have Hr := Lib.hid hr; clear hr
  go_enter Try.func40, Try.ntmps40
  go_wp2
  go_loopw [7] (fun i wr => ∃ k : Nat, k ≤ l.length ∧ i = .int .i64 k ∧ Hid ((l.take k).any (fun b => decide (64 < b.blts.length)) = false) ∧ wr = w) (fun i _ => l.length - (intOf i).toNat)
  case atStart => exact ⟨0, Nat.zero_le _, rfl, Lib.hid rfl, rfl⟩
  case round =>
    obtain ⟨k, hk, rfl, hg, rfl⟩ := hrel
    by_cases hlt : k < l.length
    · obtain ⟨b, off, c0, d0, rfl, hS, hbw, hc, hd, hx⟩ := RSl.at2 h k hlt
      obtain ⟨a', cap', rfl, rfl, hl1, hl2, -⟩ := hx.open
      by_cases h64 : 64 < l[k].blts.length
      · go_wp2
        go_ret
        exact ⟨ret_int (by rw [Hr.out, if_pos (.inr (any_of_get _ _ k hlt (by simpa using h64)))]), Below.refl _ _⟩
      · go_wp2
        exact ⟨⟨k + 1, by omega, by go_num, Lib.hid (by rw [any_take_succ _ _ _ hlt, hg.out]; simpa using h64), trivial⟩, by simp [intOf]; omega⟩
    · have hrr : recCheck l c kind = if (List.range l.length).all (okAt l c kind) then 0 else 8 := by
        rw [Hr.out, if_neg]
        rw [List.take_of_length_le (by omega)] at hg
        rw [hg.out]; simp; omega
      have Hrr := Lib.hid hrr; clear hrr Hr hg
      have hal : ∀ k, k < l.length → okAt l c kind k = false → recCheck l c kind = 8 := fun k hlt hf => by
        rw [Hrr.out, if_neg]
        intro ha
        have := List.all_eq_true.1 ha k (List.mem_range.2 hlt)
        rw [hf] at this; cases this
      have Hal := Lib.hid hal; clear hal
      go_wp2
      obtain ⟨w0, rfl⟩ : ∃ w0, w0 = wr := ⟨_, rfl⟩
      go_loopw [8] (fun i wr => ∃ k : Nat, k ≤ l.length ∧ i = .int .i64 k ∧ Hid ((List.range k).all (okAt l c kind) = true) ∧ Below w0.heap.size w0 wr) (fun i _ => l.length - (intOf i).toNat)
      case atStart => exact ⟨0, Nat.zero_le _, rfl, Lib.hid rfl, Below.refl _ _⟩
      case round =>
        obtain ⟨k, hk, rfl, hg, hb⟩ := hrel
        by_cases hlt : k < l.length
        · obtain ⟨b, off, c0, d0, rfl, hS, hbw, hc, hd, hx⟩ := RSl.at2 (h.same (.of_below hb)) k hlt
          obtain ⟨a', cap', rfl, rfl, hl1, hl2, hI⟩ := hx.open
          have hok : okAt l c kind k = (mayB l[k] c kind && !(l.take k).any fun y => sameName y.name l[k].name) := by simp [okAt, hlt]
          have hN := nameRef l[k].name wr hl2
          have hA := atRef S _ l l[k].name wr (h.same (.of_below hb))
          cases hn : nameB l[k].name
          · rw [hn] at hN
            have hf : okAt l c kind k = false := by rw [hok, mayB, hn]; rfl
            have HN := Lib.hid hN; have Hf := Lib.hid hf; clear hN hA hok hf hn
            go_wp2_with (go_at_call 74; refine HN.out.mono ?_; rintro e w1 ⟨rfl, rfl⟩)
            go_ret
            exact ⟨ret_int (Hal.out k hlt Hf.out).symm, hb⟩
          rw [hn] at hN
          have hself := at_self hlt
          obtain ⟨I, hIx⟩ : ∃ I, idxB (fun b : Btc => sameName b.name l[k].name) l = I := ⟨_, rfl⟩
          rw [hIx] at hA hself; clear hIx
          by_cases hIk : I = k
          · subst hIk
            have hany := hself.1 rfl
            rw [hany, mayB, hn, Bool.true_and, Bool.not_false, Bool.and_true] at hok
            have HN := Lib.hid hN; have HA := Lib.hid hA; have Hok := Lib.hid hok; clear hN hA hok hany hself hn
            go_wp2_with (first | (go_at_call 74; refine HN.out.mono ?_; rintro e w1 ⟨rfl, rfl⟩) | (go_at_call 76; refine HA.out.mono ?_; rintro e w1 ⟨rfl, rfl⟩))
            obtain ⟨w1, rfl⟩ : ∃ w1, w1 = wr := ⟨_, rfl⟩
            go_loopw [9] (fun i wr => ∃ j : Nat, j ≤ l[k].blts.length ∧ i = .int .i64 j ∧ Hid ((l[k].blts.take j).any (fun b => !fitsB b c kind) = false) ∧ Below w1.heap.size w1 wr) (fun i _ => l[k].blts.length - (intOf i).toNat)
            case atStart => exact ⟨0, Nat.zero_le _, rfl, Lib.hid rfl, Below.refl _ _⟩
            case round =>
              obtain ⟨j, hj, rfl, hgj, hbj⟩ := hrel
              have hc' := (Same.of_below (S := Any) hbj).cell trivial hc
              have hd' := (Same.of_below (S := Any) hbj).cell trivial hd
              by_cases hjl : j < l[k].blts.length
              · obtain ⟨b2, off2, c2, d2, rfl, hS2, hbw2, hc2, hd2, hx2⟩ := RSl.at2 (hI.same (.of_below hbj)) j hjl
                have hF := fitsRef S _ l[k].blts[j] c kind wr ⟨c2, d2, rfl, hx2⟩
                rw [← fitsB_eq hcc1 hcc2] at hF
                cases hfit : fitsB l[k].blts[j] c kind
                · rw [hfit] at hF
                  have hf : okAt l c kind k = false := by
                    rw [Hok.out, any_of_get _ _ j hjl (by rw [hfit]; rfl)]; rfl
                  have HF := Lib.hid hF; have Hf := Lib.hid hf; clear hF hf hfit
                  go_wp2_with (go_at_call 75; refine HF.out.mono ?_; rintro e w2 ⟨rfl, hb2⟩)
                  go_ret
                  exact ⟨ret_int (Hal.out k hlt Hf.out).symm, hb.trans ((hbj.trans (hb2.mono hbj.size)).mono hb.size)⟩
                · rw [hfit] at hF
                  have HF := Lib.hid hF; have Hfit := Lib.hid hfit; clear hF hfit
                  go_wp2_with (go_at_call 75; refine HF.out.mono ?_; rintro e w2 ⟨rfl, hb2⟩)
                  exact ⟨⟨j + 1, by omega, by go_num, Lib.hid (by rw [any_take_succ _ _ _ hjl, hgj.out, Hfit.out]; rfl), hbj.trans (hb2.mono hbj.size)⟩, by simp [intOf]; omega⟩
              · go_wp2
                rw [List.take_of_length_le (by omega)] at hgj
                exact ⟨⟨k + 1, by omega, by go_num, Lib.hid (by rw [all_range_succ, hg.out, Hok.out, hgj.out]; rfl), hb.trans (hbj.mono hb.size)⟩, by simp [intOf]; omega⟩
          · have hIk' : (I != (k : Int)) = true := by simpa using hIk
            have hf : okAt l c kind k = false := by
              rw [hok]
              cases ha : (l.take k).any fun y => sameName y.name l[k].name
              · exact absurd (hself.2 ha) hIk
              · simp
            have HN := Lib.hid hN; have HA := Lib.hid hA; have Hf := Lib.hid hf; clear hN hA hok hf hself hn hIk
            go_wp2_with (first | (go_at_call 74; refine HN.out.mono ?_; rintro e w1 ⟨rfl, rfl⟩) | (go_at_call 76; refine HA.out.mono ?_; rintro e w1 ⟨rfl, rfl⟩))
            go_ret
            exact ⟨ret_int (Hal.out k hlt Hf.out).symm, hb⟩
        · go_wp2
          go_ret
          exact ⟨ret_int (by rw [Hrr.out, if_pos]; obtain rfl : k = l.length := (by omega); exact hg.out), hb⟩

theorem refCheck (S : Nat → Prop) (v : Value) (l : List Btc) (c kind : Int) (w : World) (h : RBtcs S w v l) :
    Calls Try.prog 40 #[v, .int .i64 c, .int .u8 kind] w fun e w' => e = .returned (.int .i64 (recCheck l c kind)) ∧ Below w.heap.size w w' := by
  by_cases hb : 1 ≤ c ∧ c ≤ 10 ∧ 1 ≤ kind ∧ kind ≤ 3
  · exact refCheck_rest S v l c kind w h hb.1 hb.2.1 hb.2.2.1 hb.2.2.2
  · have : recCheck l c kind = 2 := by rw [recCheck, if_neg hb]
    rw [this]
    exact refCheck_arg v c kind w hb
end Go.Proofs.Ytkjgddcjhikdgaa
