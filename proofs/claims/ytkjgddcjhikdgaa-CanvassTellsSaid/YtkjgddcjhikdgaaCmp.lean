/- The places at which two counts differ; the contracts of canvass.Compare and of the reference's Unlike and Compare. -/
import Derived.Test.YtkjgddcjhikdgaaFitC
namespace Go.Proofs.Ytkjgddcjhikdgaa
open Go Go.RowKit Go.Shelf

def zB : Blt := ⟨0, []⟩
def zC : Btc := ⟨⟨#[]⟩, []⟩
def difRow (i : Nat) (xs ys : List Blt) (n : Nat) : List Place := ((List.range n).filter fun k => !eqBlt (xs.getD k zB) (ys.getD k zB)).map fun (k : Nat) => ⟨(i : Int), (k : Int)⟩
def difAll (a b : List Btc) (n : Nat) : List Place := (List.range n).flatMap fun i => difRow i (a.getD i zC).blts (b.getD i zC).blts (a.getD i zC).blts.length
def placesL (a b : List Btc) : List Place := difAll a b a.length
theorem difRow_eq {i : Nat} {xs ys : List Blt} {k : Nat} (h1 : k < xs.length) (h2 : k < ys.length) (h : eqBlt xs[k] ys[k] = true) : difRow i xs ys (k + 1) = difRow i xs ys k := by
  simp [difRow, List.range_succ, h1, h2, h]
theorem difRow_ne {i : Nat} {xs ys : List Blt} {k : Nat} (h1 : k < xs.length) (h2 : k < ys.length) (h : eqBlt xs[k] ys[k] = false) : difRow i xs ys (k + 1) = difRow i xs ys k ++ [⟨(i : Int), (k : Int)⟩] := by
  simp [difRow, List.range_succ, h1, h2, h]
theorem difAll_succ {a b : List Btc} {k : Nat} (h1 : k < a.length) (h2 : k < b.length) : difAll a b (k + 1) = difAll a b k ++ difRow k a[k].blts b[k].blts a[k].blts.length := by
  simp [difAll, List.range_succ, h1, h2]
theorem difRow_len (i : Nat) (xs ys : List Blt) (n : Nat) : (difRow i xs ys n).length ≤ n := by
  unfold difRow
  rw [List.length_map]
  exact Nat.le_trans (List.length_filter_le _ _) (by simp)
theorem difAll_len {a b : List Btc} (hsm : Small a) : ∀ n, n ≤ a.length → (difAll a b n).length ≤ n * 1000000
  | 0, _ => by simp [difAll]
  | n + 1, hn => by
    have h1 := difAll_len (b := b) hsm n (by omega)
    have h2 : difAll a b (n + 1) = difAll a b n ++ difRow n (a.getD n zC).blts (b.getD n zC).blts (a.getD n zC).blts.length := by simp [difAll, List.range_succ]
    rw [h2, List.length_append]
    have h3 := difRow_len n (a.getD n zC).blts (b.getD n zC).blts (a.getD n zC).blts.length
    have h4 : (a.getD n zC).blts.length ≤ 1000000 := by
      have : a.getD n zC = a[n] := by simp [List.getD, List.getElem?_eq_getElem (show n < a.length by omega)]
      rw [this]
      exact (hsm.2 _ (List.getElem_mem _)).1
    omega
/-- Two counts with one manifest: their rows have one length. -/
def Fitted (a b : List Btc) : Prop := a.length = b.length ∧ ∀ k (h1 : k < a.length) (h2 : k < b.length), a[k].blts.length = b[k].blts.length
theorem fitted {a b : List Btc} {c kind : Int} (h : fitI a b c kind = 0) : Fitted a b ∧ recCheck a c kind = 0 ∧ recCheck b c kind = 0 ∧ eqL eqSlot (maniL a) (maniL b) = true := by
  unfold fitI fit3 at h
  split at h
  · rename_i h1
    split at h
    · rename_i h2
      split at h
      · rename_i h3
        have hl := eqL_len h3
        have hg := eqL_get h3
        simp only [maniL, List.length_map] at hl
        refine ⟨⟨hl, fun k k1 k2 => ?_⟩, h1, h2, h3⟩
        have := hg k (by simpa [maniL] using k1) (by simpa [maniL] using k2)
        simp [maniL, eqSlot] at this
        omega
      · omega
    · exact absurd h ‹_›
  · exact absurd h ‹_›
theorem Own.rebase {α : Type} {lo hi : Nat} {e : TypeId} {n : Nat} {dec : World → List Value → α → Prop} {w : World} {v : Value} {xs : List α} (h : Own hi e n dec w v xs) (hl : lo ≤ hi) : Own lo e n dec w v xs := by
  obtain ⟨cells, ho, hd⟩ := h
  refine ⟨cells, ⟨ho.1, ?_⟩, hd⟩
  rcases ho.2 with h0 | ⟨g, cap, cur, h1, h2, h3⟩
  · exact .inl h0
  · exact .inr ⟨g, cap, cur, h1, Nat.le_trans hl h2, h3⟩
theorem getD_at {α : Type} {l : List α} {k : Nat} (z : α) (h : k < l.length) : l.getD k z = l[k] := by simp [List.getD, h]

set_option maxHeartbeats 2000000 in
set_option maxRecDepth 100000 in
theorem unlike (S T : Nat → Prop) (u v : Value) (a b : List Btc) (w : World) (hx : RBtcs S w u a) (hy : RBtcs T w v b) (hsm : Small a) (hft : Fitted a b) :
    Calls Try.prog 92 #[u, v] w (GivesOwn 111 2 dPlace (placesL a b) w) := by
  obtain ⟨a1, cap1, rfl, hx1, hx2⟩ := RSl.shape hx
  obtain ⟨a2, cap2, rfl, hy1, hy2⟩ := RSl.shape hy
  have HX := Lib.hid hx; have HY := Lib.hid hy; have Hsm := Lib.hid hsm; have HFt := Lib.hid hft
  clear hx hy hsm hft
  go_enter Try.func92, Try.ntmps92
  go_wp2
  go_loopw [5, 6] (fun s i wr => ∃ k : Nat, k ≤ a.length ∧ i = .int .i64 k ∧ Own w.heap.size 111 2 dPlace wr s (difAll a b k) ∧ Below w.heap.size w wr) (fun _ i _ => a.length - (intOf i).toNat)
  case atStart => exact ⟨0, Nat.zero_le _, rfl, Own.nil _ _ _ _ _, Below.refl _ _⟩
  case round =>
    obtain ⟨k, hk, rfl, ho, hb⟩ := hrel
    obtain ⟨ao, co, hso⟩ := Own.shape ho
    obtain ⟨n, hn⟩ : ∃ n, (difAll a b k).length = n := ⟨_, rfl⟩
    rw [hn] at hso
    subst hso
    by_cases hlt : k < a.length
    · have hlt2 : k < b.length := by have := HFt.out.1; omega
      obtain ⟨b1, off1, c1, d1, rfl, -, hbw1, hc, hd, hdx⟩ := RSl.at2 HX.out k hlt
      obtain ⟨b2, off2, c2, d2, rfl, -, hbw2, hc2, hd2, hdy⟩ := RSl.at2 HY.out k hlt2
      obtain ⟨ax, capx, rfl, rfl, hlx1, hlx2, hIx⟩ := hdx.open
      obtain ⟨ay, capy, rfl, rfl, hly1, hly2, hIy⟩ := hdy.open
      have HIx := Lib.hid hIx; have HIy := Lib.hid hIy
      have hlen := HFt.out.2 k hlt hlt2
      have Hlen := Lib.hid hlen
      have hcr := (Same.of_below (S := Any) hb).cell trivial hc
      have hdr := (Same.of_below (S := Any) hb).cell trivial hd
      have hsu := difAll_succ hlt hlt2
      have Hsu := Lib.hid hsu
      clear hIx hIy hdx hdy hlen hsu hn
      go_wp2
      obtain ⟨wx, hwx⟩ : ∃ wx, wx = wr := ⟨_, rfl⟩
      have hbx0 : Below w.heap.size w wx := by rw [hwx]; exact hb
      have hox := ho
      rw [← hwx] at hox ⊢
      clear hwx ho
      clear hcr hdr
      obtain ⟨wy, rfl⟩ : ∃ wy, wy = wx := ⟨_, rfl⟩
      go_loopw [5, 7] (fun s i wr => ∃ j : Nat, j ≤ a[k].blts.length ∧ i = .int .i64 j ∧ Own w.heap.size 111 2 dPlace wr s (difAll a b k ++ difRow k a[k].blts b[k].blts j) ∧ Below w.heap.size w wr) (fun _ i _ => a[k].blts.length - (intOf i).toNat)
      case atStart => exact ⟨0, Nat.zero_le _, rfl, by simpa [difRow] using hox, hbx0⟩
      case round =>
        clear hox hbx0
        obtain ⟨j, hj, rfl, ho, hbj⟩ := hrel
        obtain ⟨ao, co, hso⟩ := Own.shape ho
        obtain ⟨n, hn⟩ : ∃ n, (difAll a b k ++ difRow k a[k].blts b[k].blts j).length = n := ⟨_, rfl⟩
        rw [hn] at hso
        subst hso
        have Hn := Lib.hid hn; clear hn
        have hcj := (Same.of_below (S := Any) hbj).cell trivial hc
        have hdj := (Same.of_below (S := Any) hbj).cell trivial hd
        have hcj2 := (Same.of_below (S := Any) hbj).cell trivial hc2
        have hdj2 := (Same.of_below (S := Any) hbj).cell trivial hd2
        by_cases hjl : j < a[k].blts.length
        · have hjl2 : j < b[k].blts.length := by have := Hlen.out; omega
          obtain ⟨b3, off3, c3, d3, rfl, hS3, hbw3, hc3, hd3, hx3⟩ := RSl.at2 HIx.out j hjl
          obtain ⟨b4, off4, c4, d4, rfl, hS4, hbw4, hc4, hd4, hx4⟩ := RSl.at2 HIy.out j hjl2
          have hF := fun W (hW : Below w.heap.size w W) => same08 S T _ _ _ _ W ⟨c3, d3, rfl, dBlt.stable S _ _ _ _ (.of_below hW) hx3⟩ ⟨c4, d4, rfl, dBlt.stable T _ _ _ _ (.of_below hW) hx4⟩
          obtain ⟨a5, c5, rfl, rfl, -⟩ := hx3.open
          obtain ⟨a6, c6, rfl, rfl, -⟩ := hx4.open
          obtain ⟨W1, hW1⟩ : ∃ W1, W1 = wr := ⟨_, rfl⟩
          have hbW : Below w.heap.size w W1 := by rw [hW1]; exact hbj
          have hzW := hbW.size
          have hS := Same.of_below (S := Any) hbW
          have e1 := fun p => cell_ext (w := W1) (hS.cell trivial hd) p
          have e2 := fun p => cell_ext (w := W1) (hS.cell trivial hd2) p
          have e3 := fun p => cell_ext (w := W1) (hS.cell trivial hc3) p
          have e4 := fun p => cell_ext (w := W1) (hS.cell trivial hd3) p
          have e5 := fun p => cell_ext (w := W1) (hS.cell trivial hc4) p
          have e6 := fun p => cell_ext (w := W1) (hS.cell trivial hd4) p
          have hO1 : Own w.heap.size 111 2 dPlace W1 (.slice ao n co) (difAll a b k ++ difRow k a[k].blts b[k].blts j) := (by rw [hW1]; exact ho)
          have HO1 := Lib.hid hO1; clear hO1
          have hl0 : a[k].blts.length ≤ 1000000 := (Hsm.out.2 _ (List.getElem_mem hlt)).1
          have hll := difAll_len (b := b) Hsm.out k (by omega)
          have hrl := difRow_len k a[k].blts b[k].blts j
          have hna : n ≤ 1000000 * 1000000 := by have := Hn.out; rw [List.length_append] at this; have h5 := Hsm.out.1; omega
          clear hll hrl hl0 hS
          have hF1 := fun p => hF (ext W1 p) (hbW.trans ((below_ext W1 p).mono hzW))
          clear hF hx3 hx4 hc3 hd3 hc4 hd4
          cases hq : eqBlt a[k].blts[j] b[k].blts[j]
          · rw [hq] at hF1
            have hnx := difRow_ne (i := k) hjl hjl2 hq
            have HF := Lib.hid hF1; have Hnx := Lib.hid hnx; have Ho := Lib.hid ho; clear hF1 hnx hq ho
            go_wp2
            rw [← hW1]
            clear hW1
            refine wp_region_ext (by kernel_rfl) (by kernel_rfl) ?_
            repeat (go_big_quiet_step ((go_at_call 26; have hh := HF.out; exact calls_ext (v := .bool false) (hh _))))
            refine wpQuiet_nil ?_
            intro w2 hw'
            have hb12 : Below W1.heap.size W1 w2 := by obtain ⟨p, rfl⟩ := hw'; exact below_ext W1 p
            clear hw' e1 e2 e3 e4 e5 e6 HF
            have hb2 := hbW.trans (hb12.mono hzW)
            have hz2 := hb2.size
            have Ho' := Ho.out
            have hOw2 := Own.below (S := fun _ => False) (dPlace.stable _) HO1.out hb12
            have hOw := Own.below (S := fun _ => False) (dPlace.stable _) hOw2 (below_new w2 (.cells #[.int .i64 k, .int .i64 j] 111))
            have hlo := fun b hbk => (Own.lt hOw b hbk).1
            have hu : RSl (From 0) 2 dPlace (w2.alloc (.cells #[.int .i64 k, .int .i64 j] 111)) (.slice (some ⟨w2.heap.size, 0, none⟩) 1 1) [(⟨(k : Int), (j : Int)⟩ : Place)] := RSl.built (w := w2) (cs := [.int .i64 k, .int .i64 j]) (Nat.zero_le _) (box_new _ _) rfl ⟨rfl, wf_len (by omega), wf_len (by omega)⟩
            have HOw := Lib.hid hOw; have Hu := Lib.hid hu; have Hlo := Lib.hid hlo; clear hOw hOw2 hu hlo Ho' HO1 Ho hbW hzW hb12
            go_wp2_with (at_builtin; go_must (refine wpList_app _ Try.infoPlace rfl rfl Try.underlying70 ⟨rfl, by omega, by omega⟩ dPlace.one (dPlace.stable (fun _ => False)) w.heap.size HOw.out rfl Hu.out rfl (by rw [Hn.out]; simp only [List.length_cons, List.length_nil]; omega) (by simp; omega) ?_); intro a1 c1 w3 hg hat ho1; have ho2 := ho1 (fun _ _ h => h.elim); have hb3 := (hb2.trans (below_new _ _ |>.mono hz2)).grown hg (by simp; omega) Hlo.out; have Ho2 := Lib.hid ho2; have Hg := Lib.hid hg; have Hat := Lib.hid hat; clear ho1 ho2 hg hat)
            exact ⟨⟨j + 1, by omega, by go_num, by have h3 := Ho2.out; rw [List.length_append, List.length_append, List.append_assoc, Nat.add_assoc] at h3; rw [Hnx.out]; exact h3, hb3⟩, by simp [intOf]; omega⟩
          · rw [hq] at hF1
            have hnx := difRow_eq (i := k) hjl hjl2 hq
            have HF := Lib.hid hF1; have Hnx := Lib.hid hnx; have Ho := Lib.hid ho; clear hF1 hnx hq ho
            go_wp2
            rw [← hW1]
            clear hW1
            refine wp_region_ext (by kernel_rfl) (by kernel_rfl) ?_
            repeat (go_big_quiet_step ((go_at_call 26; have hh := HF.out; exact calls_ext (v := .bool true) (hh _))))
            refine wpQuiet_nil ?_
            intro w2 hw'
            have hb12 : Below W1.heap.size W1 w2 := by obtain ⟨p, rfl⟩ := hw'; exact below_ext W1 p
            clear hw' e1 e2 e3 e4 e5 e6 HF
            have hb2 := hbW.trans (hb12.mono hzW)
            have hOw2 := Own.below (S := fun _ => False) (dPlace.stable _) HO1.out hb12
            have HOw2 := Lib.hid hOw2; clear hOw2
            go_wp2
            exact ⟨⟨j + 1, by omega, by go_num, by rw [Hnx.out]; exact HOw2.out, hb2⟩, by simp [intOf]; omega⟩
        · have hj' : j = a[k].blts.length := by omega
          subst hj'
          have Ho := Lib.hid ho; clear ho
          go_wp2
          exact ⟨⟨k + 1, by omega, by go_num, by rw [Hsu.out]; exact Ho.out, hbj⟩, by simp [intOf]; omega⟩
    · have hk' : k = a.length := by omega
      subst hk'
      have Ho := Lib.hid ho; clear ho
      go_wp2
      go_ret
      exact ⟨_, rfl, Ho.out, hb⟩

/-- What a call of Compare gives. -/
def CmpGives (a b : List Btc) (c kind : Int) (w : World) (e : Ending) (w' : World) : Prop :=
  ∃ v, e = .returned (.tuple #[v, .int .i64 (fitI a b c kind)]) ∧ Own w.heap.size 111 2 dPlace w' v (if fitI a b c kind = 0 then placesL a b else []) ∧ Below w.heap.size w w'
set_option maxHeartbeats 1000000 in
theorem compare_unfit (S T : Nat → Prop) (u v : Value) (a b : List Btc) (c kind : Int) (w : World) (hx : RBtcs S w u a) (hy : RBtcs T w v b) (hla : a.length ≤ 1000000) (hlb : b.length ≤ 1000000) (hf : fitI a b c kind ≠ 0) :
    Calls Try.prog 47 #[u, v, .int .i64 c, .int .u8 kind] w (CmpGives a b c kind w) := by
  have hF := canvassFit S T u v a b c kind w hx hy hla hlb
  obtain ⟨a1, cap1, rfl, -, -⟩ := RSl.shape hx
  obtain ⟨a2, cap2, rfl, -, -⟩ := RSl.shape hy
  have hG : ∀ w', Below w.heap.size w w' → CmpGives a b c kind w (.returned (.tuple #[.slice none 0 0, .int .i64 (fitI a b c kind)])) w' := fun w' hb => ⟨_, rfl, by rw [if_neg hf]; exact Own.nil _ _ _ _ _, hb⟩
  generalize fitI a b c kind = I at *
  have hz : (I != 0) = true := by simpa using hf
  have HF := Lib.hid hF; have HG := Lib.hid hG; clear hF hG hf hx hy
  go_enter Try.func47, Try.ntmps47
  go_wp2_with (go_at_call 90; refine HF.out.mono ?_; rintro e w1 ⟨rfl, hb1⟩)
  go_ret2
  exact HG.out _ hb1
set_option maxHeartbeats 2000000 in
set_option maxRecDepth 100000 in
theorem compare_fit (S T : Nat → Prop) (u v : Value) (a b : List Btc) (c kind : Int) (w : World) (hx : RBtcs S w u a) (hy : RBtcs T w v b) (hsm : Small a) (hlb : b.length ≤ 1000000) (hf : fitI a b c kind = 0) :
    Calls Try.prog 47 #[u, v, .int .i64 c, .int .u8 kind] w (CmpGives a b c kind w) := by
  have hF := canvassFit S T u v a b c kind w hx hy hsm.1 hlb
  obtain ⟨a1, cap1, rfl, hx1, hx2⟩ := RSl.shape hx
  obtain ⟨a2, cap2, rfl, hy1, hy2⟩ := RSl.shape hy
  have hft := (fitted hf).1
  have hG : ∀ w' p, Own w.heap.size 111 2 dPlace w' p (placesL a b) → Below w.heap.size w w' → CmpGives a b c kind w (.returned (.tuple #[p, .int .i64 0])) w' := fun w' p ho hb => ⟨_, by rw [hf], by rw [if_pos hf]; exact ho, hb⟩
  rw [hf] at hF
  have HX := Lib.hid hx; have HY := Lib.hid hy; have Hsm := Lib.hid hsm; have HFt := Lib.hid hft; have HF := Lib.hid hF; have HG := Lib.hid hG
  clear hx hy hsm hft hF hG hf
  go_enter Try.func47, Try.ntmps47
  go_wp2_with (go_at_call 90; refine HF.out.mono ?_; rintro e w1 ⟨rfl, hb0⟩)
  go_loopw [8, 24] (fun s i wr => ∃ k : Nat, k ≤ a.length ∧ i = .int .i64 k ∧ Own w.heap.size 111 2 dPlace wr s (difAll a b k) ∧ Below w.heap.size w wr) (fun _ i _ => a.length - (intOf i).toNat)
  case atStart => exact ⟨0, Nat.zero_le _, rfl, Own.nil _ _ _ _ _, hb0⟩
  case round =>
    obtain ⟨k, hk, rfl, ho, hb⟩ := hrel
    obtain ⟨ao, co, hso⟩ := Own.shape ho
    obtain ⟨n, hn⟩ : ∃ n, (difAll a b k).length = n := ⟨_, rfl⟩
    rw [hn] at hso
    subst hso
    by_cases hlt : k < a.length
    · have hlt2 : k < b.length := by have := HFt.out.1; omega
      obtain ⟨b1, off1, c1, d1, rfl, -, hbw1, hc, hd, hdx⟩ := RSl.at2 HX.out k hlt
      obtain ⟨b2, off2, c2, d2, rfl, -, hbw2, hc2, hd2, hdy⟩ := RSl.at2 HY.out k hlt2
      obtain ⟨ax, capx, rfl, rfl, hlx1, hlx2, hIx⟩ := hdx.open
      obtain ⟨ay, capy, rfl, rfl, hly1, hly2, hIy⟩ := hdy.open
      have HIx := Lib.hid hIx; have HIy := Lib.hid hIy
      have hlen := HFt.out.2 k hlt hlt2
      have Hlen := Lib.hid hlen
      have hcr := (Same.of_below (S := Any) hb).cell trivial hc
      have hdr := (Same.of_below (S := Any) hb).cell trivial hd
      have hsu := difAll_succ hlt hlt2
      have Hsu := Lib.hid hsu
      clear hIx hIy hdx hdy hlen hsu hn
      go_wp2
      obtain ⟨wx, hwx⟩ : ∃ wx, wx = (wr.alloc (.cells #[.string a[k].name, .slice ax a[k].blts.length capx] 64)) := ⟨_, rfl⟩
      have hbx0 : Below w.heap.size w wx := by rw [hwx]; exact hb.trans ((below_new _ _).mono hb.size)
      have hox := (Own.below (S := fun _ => False) (dPlace.stable _) ho (below_new wr (.cells #[.string a[k].name, .slice ax a[k].blts.length capx] 64)))
      rw [← hwx] at hox ⊢
      clear hwx ho
      clear hcr hdr
      obtain ⟨wy, rfl⟩ : ∃ wy, wy = wx := ⟨_, rfl⟩
      go_loopw [8, 32] (fun s i wr => ∃ j : Nat, j ≤ a[k].blts.length ∧ i = .int .i64 j ∧ Own w.heap.size 111 2 dPlace wr s (difAll a b k ++ difRow k a[k].blts b[k].blts j) ∧ Below w.heap.size w wr) (fun _ i _ => a[k].blts.length - (intOf i).toNat)
      case atStart => exact ⟨0, Nat.zero_le _, rfl, by simpa [difRow] using hox, hbx0⟩
      case round =>
        clear hox hbx0
        obtain ⟨j, hj, rfl, ho, hbj⟩ := hrel
        obtain ⟨ao, co, hso⟩ := Own.shape ho
        obtain ⟨n, hn⟩ : ∃ n, (difAll a b k ++ difRow k a[k].blts b[k].blts j).length = n := ⟨_, rfl⟩
        rw [hn] at hso
        subst hso
        have Hn := Lib.hid hn; clear hn
        have hcj := (Same.of_below (S := Any) hbj).cell trivial hc
        have hdj := (Same.of_below (S := Any) hbj).cell trivial hd
        have hcj2 := (Same.of_below (S := Any) hbj).cell trivial hc2
        have hdj2 := (Same.of_below (S := Any) hbj).cell trivial hd2
        by_cases hjl : j < a[k].blts.length
        · have hjl2 : j < b[k].blts.length := by have := Hlen.out; omega
          obtain ⟨b3, off3, c3, d3, rfl, hS3, hbw3, hc3, hd3, hx3⟩ := RSl.at2 HIx.out j hjl
          obtain ⟨b4, off4, c4, d4, rfl, hS4, hbw4, hc4, hd4, hx4⟩ := RSl.at2 HIy.out j hjl2
          have hF := fun W (hW : Below w.heap.size w W) => ballotSame S T _ _ _ _ W ⟨c3, d3, rfl, dBlt.stable S _ _ _ _ (.of_below hW) hx3⟩ ⟨c4, d4, rfl, dBlt.stable T _ _ _ _ (.of_below hW) hx4⟩
          obtain ⟨a5, c5, rfl, rfl, -⟩ := hx3.open
          obtain ⟨a6, c6, rfl, rfl, -⟩ := hx4.open
          obtain ⟨W1, hW1⟩ : ∃ W1, W1 = (wr.alloc (.cells #[.int .u8 a[k].blts[j].kind, .slice a5 a[k].blts[j].marks.length c5] 25)) := ⟨_, rfl⟩
          have hbW : Below w.heap.size w W1 := by rw [hW1]; exact hbj.trans ((below_new _ _).mono hbj.size)
          have hzW := hbW.size
          have hS := Same.of_below (S := Any) hbW
          have e1 := fun p => cell_ext (w := W1) (hS.cell trivial hd) p
          have e2 := fun p => cell_ext (w := W1) (hS.cell trivial hd2) p
          have e3 := fun p => cell_ext (w := W1) (hS.cell trivial hc3) p
          have e4 := fun p => cell_ext (w := W1) (hS.cell trivial hd3) p
          have e5 := fun p => cell_ext (w := W1) (hS.cell trivial hc4) p
          have e6 := fun p => cell_ext (w := W1) (hS.cell trivial hd4) p
          have f3 := (Same.of_below (S := Any) hbj).cell trivial hc3
          have f4 := (Same.of_below (S := Any) hbj).cell trivial hd3
          have hbx : W1.heap[wr.heap.size]? = some (.cells #[.int .u8 a[k].blts[j].kind, .slice a5 a[k].blts[j].marks.length c5] 25 (0, 0)) := by rw [hW1]; exact box_new _ _
          obtain ⟨-, hcb, -⟩ := own_box (Below.refl _ _) (size_of_box hbx) hbx
          have e7 := fun p => cell_ext (w := W1) (hcb 0) p
          have e8 := fun p => cell_ext (w := W1) (hcb 1) p
          clear hbx hcb
          have hO1 : Own w.heap.size 111 2 dPlace W1 (.slice ao n co) (difAll a b k ++ difRow k a[k].blts b[k].blts j) := (by rw [hW1]; exact Own.below (S := fun _ => False) (dPlace.stable _) ho (below_new _ _))
          have HO1 := Lib.hid hO1; clear hO1
          have hl0 : a[k].blts.length ≤ 1000000 := (Hsm.out.2 _ (List.getElem_mem hlt)).1
          have hll := difAll_len (b := b) Hsm.out k (by omega)
          have hrl := difRow_len k a[k].blts b[k].blts j
          have hna : n ≤ 1000000 * 1000000 := by have := Hn.out; rw [List.length_append] at this; have h5 := Hsm.out.1; omega
          clear hll hrl hl0 hS
          have hF1 := fun p => hF (ext W1 p) (hbW.trans ((below_ext W1 p).mono hzW))
          clear hF hx3 hx4 hc3 hd3 hc4 hd4
          cases hq : eqBlt a[k].blts[j] b[k].blts[j]
          · rw [hq] at hF1
            have hnx := difRow_ne (i := k) hjl hjl2 hq
            have HF := Lib.hid hF1; have Hnx := Lib.hid hnx; have Ho := Lib.hid ho; clear hF1 hnx hq ho
            go_wp2
            rw [← hW1]
            clear hW1
            refine wp_region_ext (by kernel_rfl) (by kernel_rfl) ?_
            repeat (go_big_quiet_step ((go_at_call 87; have hh := HF.out; exact calls_ext (v := .bool false) (hh _))))
            refine wpQuiet_nil ?_
            intro w2 hw'
            have hb12 : Below W1.heap.size W1 w2 := by obtain ⟨p, rfl⟩ := hw'; exact below_ext W1 p
            clear hw' e1 e2 e3 e4 e5 e6 e7 e8 HF
            have hb2 := hbW.trans (hb12.mono hzW)
            have hz2 := hb2.size
            have Ho' := Ho.out
            have hOw2 := Own.below (S := fun _ => False) (dPlace.stable _) HO1.out hb12
            have hOw := Own.below (S := fun _ => False) (dPlace.stable _) hOw2 (below_new w2 (.cells #[.int .i64 k, .int .i64 j] 111))
            have hlo := fun b hbk => (Own.lt hOw b hbk).1
            have hu : RSl (From 0) 2 dPlace (w2.alloc (.cells #[.int .i64 k, .int .i64 j] 111)) (.slice (some ⟨w2.heap.size, 0, none⟩) 1 1) [(⟨(k : Int), (j : Int)⟩ : Place)] := RSl.built (w := w2) (cs := [.int .i64 k, .int .i64 j]) (Nat.zero_le _) (box_new _ _) rfl ⟨rfl, wf_len (by omega), wf_len (by omega)⟩
            have HOw := Lib.hid hOw; have Hu := Lib.hid hu; have Hlo := Lib.hid hlo; clear hOw hOw2 hu hlo Ho' HO1 Ho hbW hzW hb12
            go_wp2_with (at_builtin; go_must (refine wpList_app _ Try.infoPlace rfl rfl Try.underlying70 ⟨rfl, by omega, by omega⟩ dPlace.one (dPlace.stable (fun _ => False)) w.heap.size HOw.out rfl Hu.out rfl (by rw [Hn.out]; simp only [List.length_cons, List.length_nil]; omega) (by simp; omega) ?_); intro a1 c1 w3 hg hat ho1; have ho2 := ho1 (fun _ _ h => h.elim); have hb3 := (hb2.trans (below_new _ _ |>.mono hz2)).grown hg (by simp; omega) Hlo.out; have Ho2 := Lib.hid ho2; have Hg := Lib.hid hg; have Hat := Lib.hid hat; clear ho1 ho2 hg hat)
            exact ⟨⟨j + 1, by omega, by go_num, by have h3 := Ho2.out; rw [List.length_append, List.length_append, List.append_assoc, Nat.add_assoc] at h3; rw [Hnx.out]; exact h3, hb3⟩, by simp [intOf]; omega⟩
          · rw [hq] at hF1
            have hnx := difRow_eq (i := k) hjl hjl2 hq
            have HF := Lib.hid hF1; have Hnx := Lib.hid hnx; have Ho := Lib.hid ho; clear hF1 hnx hq ho
            go_wp2
            rw [← hW1]
            clear hW1
            refine wp_region_ext (by kernel_rfl) (by kernel_rfl) ?_
            repeat (go_big_quiet_step ((go_at_call 87; have hh := HF.out; exact calls_ext (v := .bool true) (hh _))))
            refine wpQuiet_nil ?_
            intro w2 hw'
            have hb12 : Below W1.heap.size W1 w2 := by obtain ⟨p, rfl⟩ := hw'; exact below_ext W1 p
            clear hw' e1 e2 e3 e4 e5 e6 e7 e8 HF
            have hb2 := hbW.trans (hb12.mono hzW)
            have hOw2 := Own.below (S := fun _ => False) (dPlace.stable _) HO1.out hb12
            have HOw2 := Lib.hid hOw2; clear hOw2
            go_wp2
            exact ⟨⟨j + 1, by omega, by go_num, by rw [Hnx.out]; exact HOw2.out, hb2⟩, by simp [intOf]; omega⟩
        · have hj' : j = a[k].blts.length := by omega
          subst hj'
          have Ho := Lib.hid ho; clear ho
          go_wp2
          exact ⟨⟨k + 1, by omega, by go_num, by rw [Hsu.out]; exact Ho.out, hbj⟩, by simp [intOf]; omega⟩
    · have hk' : k = a.length := by omega
      subst hk'
      have Ho := Lib.hid ho; clear ho
      go_wp2
      go_ret2
      exact HG.out _ _ Ho.out hb

theorem canvassCompare (S T : Nat → Prop) (u v : Value) (a b : List Btc) (c kind : Int) (w : World) (hx : RBtcs S w u a) (hy : RBtcs T w v b) (hsm : Small a) (hlb : b.length ≤ 1000000) :
    Calls Try.prog 47 #[u, v, .int .i64 c, .int .u8 kind] w (CmpGives a b c kind w) := by
  by_cases hf : fitI a b c kind = 0
  · exact compare_fit S T u v a b c kind w hx hy hsm hlb hf
  · exact compare_unfit S T u v a b c kind w hx hy hsm.1 hlb hf
set_option maxHeartbeats 1000000 in
theorem refCompare (S T : Nat → Prop) (u v : Value) (a b : List Btc) (c kind : Int) (w : World) (hx : RBtcs S w u a) (hy : RBtcs T w v b) (hsm : Small a) (hlb : b.length ≤ 1000000) :
    Calls Try.prog 48 #[u, v, .int .i64 c, .int .u8 kind] w (CmpGives a b c kind w) := by
  have hF := refFit S T u v a b c kind w hx hy hsm.1 hlb
  by_cases hf : fitI a b c kind = 0
  · have hG : ∀ w' p, Own w.heap.size 111 2 dPlace w' p (placesL a b) → Below w.heap.size w w' → CmpGives a b c kind w (.returned (.tuple #[p, .int .i64 0])) w' := fun w' p ho hb => ⟨_, by rw [hf], by rw [if_pos hf]; exact ho, hb⟩
    have hU := fun W (hW : Below w.heap.size w W) => unlike S T u v a b W (hx.same (.of_below hW)) (hy.same (.of_below hW)) hsm (fitted hf).1
    rw [hf] at hF
    obtain ⟨a1, cap1, rfl, hx1, hx2⟩ := RSl.shape hx
    obtain ⟨a2, cap2, rfl, hy1, hy2⟩ := RSl.shape hy
    have HU := Lib.hid hU; have HF := Lib.hid hF; have HG := Lib.hid hG
    clear hx hy hsm hF hG hU hf
    have hz0 : ((0 : Int) != 0) = false := rfl
    go_enter Try.func48, Try.ntmps48
    go_wp2_with (first
      | (go_at_call 91; refine HF.out.mono ?_; rintro e w1 ⟨rfl, hb1⟩)
      | (go_at_call 92; refine (HU.out _ hb1).mono ?_; rintro e w2 ⟨p, rfl, ho2, hb2⟩; obtain ⟨ax2, cx2, rfl⟩ := id (Own.shape ho2); have Ho2 := Lib.hid ho2; clear ho2))
    go_ret2
    exact HG.out _ _ (Own.rebase Ho2.out hb1.size) (hb1.trans (hb2.mono hb1.size))
  · have hG : ∀ w', Below w.heap.size w w' → CmpGives a b c kind w (.returned (.tuple #[.slice none 0 0, .int .i64 (fitI a b c kind)])) w' := fun w' hb => ⟨_, rfl, by rw [if_neg hf]; exact Own.nil _ _ _ _ _, hb⟩
    obtain ⟨a1, cap1, rfl, -, -⟩ := RSl.shape hx
    obtain ⟨a2, cap2, rfl, -, -⟩ := RSl.shape hy
    generalize fitI a b c kind = I at *
    have hz : (I != 0) = true := by simpa using hf
    have HF := Lib.hid hF; have HG := Lib.hid hG; clear hF hG hf hx hy
    go_enter Try.func48, Try.ntmps48
    go_wp2_with (go_at_call 91; refine HF.out.mono ?_; rintro e w1 ⟨rfl, hb1⟩)
    go_ret2
    exact HG.out _ hb1
end Go.Proofs.Ytkjgddcjhikdgaa
