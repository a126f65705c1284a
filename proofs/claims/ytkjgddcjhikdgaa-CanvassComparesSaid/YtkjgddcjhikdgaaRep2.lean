/- The contract of the reference's Replace; both Replaces. -/
import Derived.Test.YtkjgddcjhikdgaaRep
import Derived.StillTailTactics
namespace Go.Proofs.Ytkjgddcjhikdgaa
open Go Go.RowKit Go.Shelf Go.Maps

set_option maxHeartbeats 2000000 in
theorem refReplace_unfit (S T : Nat → Prop) (u v z : Value) (a b : List Btc) (c kind : Int) (is : List Int) (w : World) (hx : RBtcs S w u a) (hy : RBtcs T w v b) (hsa : Small a) (hsb : Small b) (hf : fitI a b c kind ≠ 0) :
    Calls Try.prog 50 #[u, v, .int .i64 c, .int .u8 kind, z] w (RepGives a b c kind is w) := by
  have hF := refFit S T u v a b c kind w hx hy hsa.1 hsb.1
  have hG := fun w' (hb : Below w.heap.size w w') => RepGives.none (a := a) (b := b) (c := c) (kind := kind) (is := is) (w := w) (w' := w') (by rw [repI, if_neg hf]) hf hb
  obtain ⟨a1, cap1, rfl, -, -⟩ := RSl.shape hx
  obtain ⟨a2, cap2, rfl, -, -⟩ := RSl.shape hy
  generalize fitI a b c kind = I at *
  have hz : (I != 0) = true := by simpa using hf
  have HF := Lib.hid hF; have HG := Lib.hid hG; clear hF hG hf hx hy
  go_enter Try.func50, Try.ntmps50
  go_wp2_with (go_at_call 91; refine HF.out.mono ?_; rintro e w1 ⟨rfl, hb1⟩)
  go_ret2
  exact HG.out _ hb1

set_option maxHeartbeats 4000000 in
set_option maxRecDepth 100000 in
theorem refReplace_fit (S T U : Nat → Prop) (u v z : Value) (a b : List Btc) (c kind : Int) (is : List Int) (w : World) (hx : RBtcs S w u a) (hy : RBtcs T w v b) (hzi : RInts U w z is) (hli : is.length ≤ 1000) (hsa : Small a) (hsb : Small b) (hf : fitI a b c kind = 0) :
    Calls Try.prog 50 #[u, v, .int .i64 c, .int .u8 kind, z] w (RepGives a b c kind is w) := by
  have hF := refFit S T u v a b c kind w hx hy hsa.1 hsb.1
  have hft := (fitted hf).1
  have hBad := fun w' (hb : Below w.heap.size w w') (ho : okB a.length is = false) => RepGives.none (a := a) (b := b) (c := c) (kind := kind) (is := is) (w := w) (w' := w') (repI_bad hf ho) (by omega) hb
  have hGood := fun w' p lo (ho : okB a.length is = true) hv (hlo : w.heap.size ≤ lo) (hb : Below w.heap.size w w') => RepGives.some (a := a) (b := b) (c := c) (kind := kind) (is := is) (w := w) (w' := w') (v := p) (lo := lo) hf ho hv hlo hb
  have hTA := fun W (hW : Below w.heap.size w W) => twinRef S u a W (hx.same (.of_below hW)) hsa
  have hTB := fun W (hW : Below w.heap.size w W) => twinRef T v b W (hy.same (.of_below hW)) hsb
  rw [hf] at hF
  obtain ⟨a1, cap1, rfl, hx1, hx2⟩ := RSl.shape hx
  obtain ⟨a2, cap2, rfl, -, -⟩ := RSl.shape hy
  obtain ⟨a3, cap3, rfl, hz1, hz2⟩ := RSl.shape hzi
  have HF := Lib.hid hF; have HBad := Lib.hid hBad; have HGood := Lib.hid hGood; have HTA := Lib.hid hTA; have HTB := Lib.hid hTB; have HZ := Lib.hid hzi; have Hft := Lib.hid hft; have Hsa := Lib.hid hsa; have Hsb := Lib.hid hsb
  clear hF hBad hGood hTA hTB hzi hft hsa hsb hx hy hf
  go_enter Try.func50, Try.ntmps50
  go_wp2_with (go_at_call 91; refine HF.out.mono ?_; rintro e w1 ⟨rfl, hb1⟩)
  have hl1 := hb1.size
  go_loopw [13] (fun i wr => ∃ k : Nat, k ≤ is.length ∧ i = .int .i64 k ∧ Hid (okB a.length (is.take k) = true) ∧ Below w.heap.size w wr) (fun i _ => is.length - (intOf i).toNat)
  case atStart => exact ⟨0, Nat.zero_le _, rfl, Lib.hid (by rw [List.take_zero]; exact okB_nil _), hb1⟩
  case round =>
    obtain ⟨k, hk, rfl, hok, hb⟩ := hrel
    have hlr := hb.size
    by_cases hlt : k < is.length
    · obtain ⟨bz, offz, cz, rfl, -, hbz, hcz0, hdz⟩ := RSl.at1 HZ.out k hlt
      have hcz := (Same.of_below (S := Any) hb).cell trivial hcz0
      obtain ⟨rfl, hwz⟩ := hdz.open
      have hnx := okB_take hlt hok.out
      have hdead : okB a.length (is.take (k + 1)) = false → okB a.length is = false := okB_false
      obtain ⟨x, hx⟩ : ∃ x, x = is[k] := ⟨_, rfl⟩
      rw [← hx] at hcz hcz0 hwz hnx
      have Hnx := Lib.hid hnx; have Hx := Lib.hid hx; have Hdead := Lib.hid hdead
      have hwx := wf_i64 hwz
      clear hnx hx hdz hwz hdead
      by_cases b1 : x < 0
      · go_wp2
        go_ret2
        exact HBad.out _ hb (Hdead.out (by rw [Hnx.out, decide_eq_false (by omega), Bool.false_and]))
      by_cases b2 : (a.length : Int) ≤ x
      · go_wp2
        go_ret2
        exact HBad.out _ hb (Hdead.out (by rw [Hnx.out, decide_eq_false (by omega), Bool.false_and]))
      go_wp2
      obtain ⟨wo, rfl⟩ : ∃ wo, wo = wr := ⟨_, rfl⟩
      go_loopw [14] (fun i wr => ∃ j : Nat, j ≤ k ∧ i = .int .i64 j ∧ Hid (¬ x ∈ is.take j) ∧ Below w.heap.size w wr) (fun i _ => k - (intOf i).toNat)
      case atStart => exact ⟨0, Nat.zero_le _, rfl, Lib.hid (by simp), hb⟩
      case round =>
        clear hcz
        obtain ⟨j, hj, rfl, hnm, hbj⟩ := hrel
        have hcz := (Same.of_below (S := Any) hbj).cell trivial hcz0
        by_cases hjk : j < k
        · obtain ⟨bz2, offz2, cy, e2, -, hby, hcy0, hdy⟩ := RSl.at1 HZ.out j (by omega)
          simp only [Option.some.injEq, Addr.mk.injEq, and_true] at e2
          obtain ⟨rfl, rfl⟩ := e2
          obtain ⟨rfl, -⟩ := hdy.open
          have hcy := (Same.of_below (S := Any) hbj).cell trivial hcy0
          have hjl : j < is.length := by omega
          have hts : is.take (j + 1) = is.take j ++ [is[j]] := List.take_succ_eq_append_getElem hjl
          have hmk : is[j] = x → x ∈ is.take k := fun he => he ▸ List.mem_take_iff_getElem.2 ⟨j, by omega, rfl⟩
          obtain ⟨y, hy⟩ : ∃ y, y = is[j] := ⟨_, rfl⟩
          rw [← hy] at hcy hcy0 hts hmk
          have e1 := fun p => cell_ext (w := wr) hcz p
          have e2 := fun p => cell_ext (w := wr) hcy p
          have Hts := Lib.hid hts; have Hmk := Lib.hid hmk
          clear hts hmk hy hdy hcy hcz hcy0
          by_cases he : y = x
          · have he' : (y == x) = true := by simpa using he
            have He := Lib.hid he; clear he
            go_wp2
            refine wp_region_ext (by kernel_rfl) (by kernel_rfl) ?_
            repeat (go_big_quiet_step (fail))
            refine wpQuiet_nil ?_
            intro w5 hw'
            have hb5 : Below wr.heap.size wr w5 := by obtain ⟨p, rfl⟩ := hw'; exact below_ext wr p
            clear hw'
            go_wp2
            go_ret2
            exact HBad.out _ (hbj.trans (hb5.mono hbj.size)) (Hdead.out (by rw [Hnx.out, decide_eq_true (Hmk.out He.out)]; simp))
          · have he' : (y == x) = false := by simpa using he
            have He := Lib.hid he; clear he
            go_wp2
            refine wp_region_ext (by kernel_rfl) (by kernel_rfl) ?_
            repeat (go_big_quiet_step (fail))
            refine wpQuiet_nil ?_
            intro w5 hw'
            have hb5 : Below wr.heap.size wr w5 := by obtain ⟨p, rfl⟩ := hw'; exact below_ext wr p
            clear hw'
            go_wp2
            exact ⟨⟨j + 1, by omega, by go_num, Lib.hid (by rw [Hts.out, List.mem_append]; rintro (h | h); exact hnm.out h; exact He.out (List.mem_singleton.1 h).symm), hbj.trans (hb5.mono hbj.size)⟩, by simp [intOf]; omega⟩
        · have hj' : j = k := by omega
          subst hj'
          go_wp2
          exact ⟨⟨j + 1, by omega, by go_num, Lib.hid (by rw [Hnx.out, decide_eq_true (by omega : 0 ≤ x ∧ x < a.length), decide_eq_false hnm.out]; rfl), hbj⟩, by simp [intOf]; omega⟩
    · have hk' : k = is.length := by omega
      subst hk'
      have hall : okB a.length is = true := by have := hok.out; rwa [List.take_length] at this
      have Hall := Lib.hid hall
      clear hok hall HBad
      go_wp2_with (first
        | (go_at_call_of 20 (a1); refine (HTA.out _ hb).mono ?_; rintro e w2 ⟨v2, ys, rfl, htw, hys, hb2⟩; have hq2 := hb.trans (hb2.mono hlr); have hl2 := hq2.size; obtain ⟨a4, c4, e4⟩ := id (OwnX.shape htw.1); rw [show ys.length = a.length from (by have := congrArg List.length hys; simpa using this)] at e4; subst e4; have Htw := Lib.hid htw; have Hys := Lib.hid hys; have Hb2 := Lib.hid hb2.size; clear htw hys)
        | (go_at_call 20; refine (HTB.out _ hq2).mono ?_; rintro e w3 ⟨v3, zs, rfl, htw3, hzs, hb3⟩; have hq3 := hq2.trans (hb3.mono hl2); have hl3 := hq3.size; obtain ⟨a5, c5, e5⟩ := id (OwnX.shape htw3.1); rw [show zs.length = b.length from (by have := congrArg List.length hzs; simpa using this)] at e5; subst e5; have Hot := Lib.hid (twin_reads htw3 hzs Hsb.out); have Hb3 := Lib.hid hb3; clear htw3 hzs))
      obtain ⟨wq, rfl⟩ : ∃ wq, wq = wr := ⟨_, rfl⟩
      have hro := RepOut.start (b := b) Htw.out Hys.out Hb2.out Hb3.out
      have Hro := Lib.hid hro
      clear hro Htw Hys HTA HTB HF
      go_loopw [17] (fun i wr => ∃ k : Nat, k ≤ is.length ∧ i = .int .i64 k ∧ Hid (RepOut wq.heap.size w2.heap.size w3.heap.size w3 wr (.slice a4 a.length c4) a b (is.take k)) ∧ Below w.heap.size w wr) (fun i _ => is.length - (intOf i).toNat)
      case atStart => exact ⟨0, Nat.zero_le _, rfl, by rw [List.take_zero]; exact Hro, hq3⟩
      case round =>
        clear Hro hq3
        obtain ⟨k, hk, rfl, hro, hb⟩ := hrel
        by_cases hlt : k < is.length
        · obtain ⟨bz, offz, cz, rfl, -, hbz, hcz0, hdz⟩ := RSl.at1 HZ.out k hlt
          have hcz := (Same.of_below (S := Any) hb).cell trivial hcz0
          obtain ⟨rfl, hwz⟩ := hdz.open
          have hts : is.take (k + 1) = is.take k ++ [is[k]] := List.take_succ_eq_append_getElem hlt
          have hrg : 0 ≤ is[k] ∧ is[k] < a.length := by
            have := Hall.out
            simp only [okB, Bool.and_eq_true, List.all_eq_true, decide_eq_true_eq] at this
            exact this.1 _ (List.getElem_mem hlt)
          obtain ⟨x, hx⟩ : ∃ x, x = is[k] := ⟨_, rfl⟩
          rw [← hx] at hcz hcz0 hts hrg
          obtain ⟨n, rfl⟩ : ∃ n : Nat, x = n := ⟨x.toNat, by omega⟩
          have hn : n < a.length := by omega
          have hnb : n < b.length := by have := Hft.out.1; omega
          obtain ⟨g, y0, y1, rfl, hg1, hg2, hg3, hgc, hgd, hgf⟩ := hro.out.at hn
          obtain ⟨g5, off5, p5, q5, rfl, hg5, hoc, hod, how⟩ := other_at Hot.out hro.out.2.1 hnb
          have How := Lib.hid how; have Hts := Lib.hid hts
          clear how hts hx hdz hwz hcz0
          go_wp2
          go_still_tail 12, (by kernel_rfl)
          go_wp2
          refine ⟨⟨k + 1, by omega, by go_num, Lib.hid ?_, ?_⟩, by simp [intOf]; omega⟩
          · rw [Hts.out]
            exact hro.out.step rfl hn hnb How.out (fun j hj => rfl) (by simp [World.setCell])
          · exact ((Below.drew hb).setCell (p := ⟨g, n * 2, none⟩) (by simp; omega) _).setCell (p := ⟨g, n * 2 + 1, none⟩) (by simp; omega) _
        · have hk' : k = is.length := by omega
          subst hk'
          go_wp2
          go_ret2
          exact HGood.out _ _ _ Hall.out (by have := hro.out.done Hsa.out.1; rwa [List.take_length] at this) hlr hb
theorem canvassReplace (S T U : Nat → Prop) (u v z : Value) (a b : List Btc) (c kind : Int) (is : List Int) (w : World) (hx : RBtcs S w u a) (hy : RBtcs T w v b) (hzi : RInts U w z is) (hli : is.length ≤ 1000) (hsa : Small a) (hsb : Small b) :
    Calls Try.prog 49 #[u, v, .int .i64 c, .int .u8 kind, z] w (RepGives a b c kind is w) := by
  by_cases hf : fitI a b c kind = 0
  · exact canvassReplace_fit S T U u v z a b c kind is w hx hy hzi hli hsa hsb hf
  · exact canvassReplace_unfit S T u v z a b c kind is w hx hy hsa hsb hf
theorem refReplace (S T U : Nat → Prop) (u v z : Value) (a b : List Btc) (c kind : Int) (is : List Int) (w : World) (hx : RBtcs S w u a) (hy : RBtcs T w v b) (hzi : RInts U w z is) (hli : is.length ≤ 1000) (hsa : Small a) (hsb : Small b) :
    Calls Try.prog 50 #[u, v, .int .i64 c, .int .u8 kind, z] w (RepGives a b c kind is w) := by
  by_cases hf : fitI a b c kind = 0
  · exact refReplace_fit S T U u v z a b c kind is w hx hy hzi hli hsa hsb hf
  · exact refReplace_unfit S T u v z a b c kind is w hx hy hsa hsb hf
end Go.Proofs.Ytkjgddcjhikdgaa
