/- Texts of one claim, put together: At. -/
import Derived.Test.YtopdfijojjbjdaaGreatKGPut

/- The contracts of record.At and of the reference's At. -/
namespace Go.Proofs.YtopdfijojjbjdaaGreat
open Go Go.RowKit Go.Shelf

/-- The ballot at a place, and the answer. -/
def atAt (l : List Btc) (b k : Int) : Option Blt := if 0 ≤ b ∧ 0 ≤ k then (l[b.toNat]?).bind (fun x => x.blts[k.toNat]?) else none
def answAt (l : List Btc) (c kind b k : Int) : Int := if recCheck l c kind = 0 then (match atAt l b k with | some _ => 0 | none => 6) else recCheck l c kind
def bltAt (l : List Btc) (c kind b k : Int) : Blt := if recCheck l c kind = 0 then (atAt l b k).getD ⟨0, []⟩ else ⟨0, []⟩
theorem atAt_none {l : List Btc} {b k : Int} (h : ∀ n m : Nat, b = n → k = m → ∀ (h : n < l.length), ¬ m < l[n].blts.length) : (match atAt l b k with | some _ => (0 : Int) | none => 6) = 6 := by
  have : atAt l b k = none := by
    unfold atAt
    split
    · rename_i hh
      rcases Nat.lt_or_ge b.toNat l.length with h1 | h1
      · have := h b.toNat k.toNat (by omega) (by omega) h1
        simp [List.getElem?_eq_getElem h1]
        omega
      · simp [List.getElem?_eq_none h1]
    · rfl
  rw [this]
theorem atAt_some {l : List Btc} {n m : Nat} (h : n < l.length) (h' : m < l[n].blts.length) : (match atAt l n m with | some _ => (0 : Int) | none => 6) = 0 ∧ (atAt l n m).getD ⟨0, []⟩ = l[n].blts[m] := by
  have : atAt l n m = some l[n].blts[m] := by simp [atAt, h, h']
  rw [this]
  exact ⟨rfl, rfl⟩
def AtGives (l : List Btc) (c kind b k : Int) (w : World) (e : Ending) (w' : World) : Prop :=
  ∃ v, e = .returned (.tuple #[v, .int .i64 (answAt l c kind b k)]) ∧ WBlt (From w.heap.size) w' v (bltAt l c kind b k) ∧ Below w.heap.size w w'
theorem bltAt_zero {l : List Btc} {c kind b k : Int} (h : answAt l c kind b k ≠ 0) : bltAt l c kind b k = ⟨0, []⟩ := by
  unfold answAt at h
  unfold bltAt
  split
  · rename_i hc
    rw [if_pos hc] at h
    cases ho : atAt l b k
    · rfl
    · rw [ho] at h; exact absurd rfl h
  · rfl
theorem AtGives.none {l : List Btc} {c kind b k : Int} {w w' : World} {i : Int} (h : answAt l c kind b k = i ∧ i ≠ 0) (hb : Below w.heap.size w w') :
    AtGives l c kind b k w (.returned (.tuple #[.agg #[.int .u8 0, .slice none 0 0], .int .i64 i])) w' :=
  ⟨_, by rw [h.1], by rw [bltAt_zero (by rw [h.1]; exact h.2)]; exact ⟨_, _, rfl, _, rfl, by simp, by simp, WSl.nil⟩, hb⟩
theorem AtGives.some {l : List Btc} {c kind b k : Int} {w w' : World} {v : Value} {x : Blt} {base : Nat} (hi : answAt l c kind b k = 0) (hl : bltAt l c kind b k = x) (hv : WBlt (From base) w' v x) (hbase : w.heap.size ≤ base) (hb : Below w.heap.size w w') :
    AtGives l c kind b k w (.returned (.tuple #[v, .int .i64 0])) w' := by
  refine ⟨v, by rw [hi], ?_, hb⟩
  rw [hl]
  obtain ⟨c0, d0, hv, hx⟩ := hv
  exact ⟨c0, d0, hv, hx.mono fun b hb => by simp only [From] at hb ⊢; omega⟩

set_option maxHeartbeats 1000000 in
theorem recordAt (S : Nat → Prop) (v : Value) (l : List Btc) (c kind bt k : Int) (w : World) (h : RBtcs S w v l) (hsm : Small l) (hbt : -9223372036854775808 ≤ bt ∧ bt ≤ 9223372036854775807) (hkk : -9223372036854775808 ≤ k ∧ k ≤ 9223372036854775807) :
    Calls Tryz.prog 10 #[v, .int .i64 c, .int .u8 kind, .int .i64 bt, .int .i64 k] w (AtGives l c kind bt k w) := by
  obtain ⟨a, cap, rfl, h1, h2⟩ := RSl.shape h
  have hb0 : Below w.heap.size w (w.alloc (.cells #[.int .u8 0, .slice none 0 0] 41)) := (Below.refl _ _).alloc (Nat.le_refl _) _
  have hbx := box_new w (.cells #[.int .u8 0, .slice none 0 0] 41)
  have hC := recordCheck S _ l c kind _ (h.same (.of_below hb0))
  by_cases hc : recCheck l c kind = 0
  case neg =>
    have hc1 : (recCheck l c kind != 0) = true := by simpa using hc
    have he : answAt l c kind bt k = recCheck l c kind ∧ recCheck l c kind ≠ 0 := ⟨by rw [answAt, if_neg hc], hc⟩
    generalize recCheck l c kind = i at *
    have HC := Lib.hid hC; have HE := Lib.hid he; clear hC hc he
    go_enter Tryz.func10, Tryz.ntmps10
    go_wp2_with (go_at_call 26; refine HC.out.mono ?_; rintro e w1 ⟨rfl, hb1⟩; obtain ⟨gx1, hcx1, hfx1⟩ := own_box hb1 (by simp) hbx; have hl1 := hb1.size; have hlt1 := size_of_box gx1)
    exact bodyPost_ret (v := .tuple #[.agg #[.int .u8 0, .slice none 0 0], .int .i64 i]) (by simp [results, Tryz.results10, go_sem, hcx1]) rfl (AtGives.none HE.out ((hb0.trans (hb1.mono (by simp))).setCell (p := ⟨w.heap.size, 0, none⟩) (Nat.le_refl _) _ |>.setCell (p := ⟨w.heap.size, 1, none⟩) (Nat.le_refl _) _))
  rw [hc] at hC
  have hO : ∀ e, (∀ n m : Nat, bt = n → k = m → ∀ (h : n < l.length), ¬ m < l[n].blts.length) → e = 6 → answAt l c kind bt k = e ∧ (e : Int) ≠ 0 := fun e h he => ⟨by rw [answAt, if_pos hc, he]; exact atAt_none h, by omega⟩
  have hS : ∀ n m : Nat, bt = n → k = m → ∀ (h : n < l.length) (h' : m < l[n].blts.length), answAt l c kind bt k = 0 ∧ bltAt l c kind bt k = l[n].blts[m] := fun n m h1 h2 h h' => by
    subst h1 h2
    rw [answAt, bltAt, if_pos hc, if_pos hc]
    exact atAt_some h h'
  have HC := Lib.hid hC; have HO := Lib.hid hO; have HS := Lib.hid hS; clear hC hc hO hS
  by_cases b1 : bt < 0
  · have HE := Lib.hid (HO.out 6 (fun n m hn => by omega) rfl)
    go_enter Tryz.func10, Tryz.ntmps10
    go_wp2_with (go_at_call 26; refine HC.out.mono ?_; rintro e w1 ⟨rfl, hb1⟩; obtain ⟨gx1, hcx1, hfx1⟩ := own_box hb1 (by simp) hbx; have hl1 := hb1.size; have hlt1 := size_of_box gx1)
    exact bodyPost_ret (v := .tuple #[.agg #[.int .u8 0, .slice none 0 0], .int .i64 6]) (by simp [results, Tryz.results10, go_sem, hcx1]) rfl (AtGives.none HE.out ((hb0.trans (hb1.mono (by simp))).setCell (p := ⟨w.heap.size, 0, none⟩) (Nat.le_refl _) _ |>.setCell (p := ⟨w.heap.size, 1, none⟩) (Nat.le_refl _) _))
  by_cases b2 : (l.length : Int) ≤ bt
  · have HE := Lib.hid (HO.out 6 (fun n m hn hm hh => by omega) rfl)
    go_enter Tryz.func10, Tryz.ntmps10
    go_wp2_with (go_at_call 26; refine HC.out.mono ?_; rintro e w1 ⟨rfl, hb1⟩; obtain ⟨gx1, hcx1, hfx1⟩ := own_box hb1 (by simp) hbx; have hl1 := hb1.size; have hlt1 := size_of_box gx1)
    exact bodyPost_ret (v := .tuple #[.agg #[.int .u8 0, .slice none 0 0], .int .i64 6]) (by simp [results, Tryz.results10, go_sem, hcx1]) rfl (AtGives.none HE.out ((hb0.trans (hb1.mono (by simp))).setCell (p := ⟨w.heap.size, 0, none⟩) (Nat.le_refl _) _ |>.setCell (p := ⟨w.heap.size, 1, none⟩) (Nat.le_refl _) _))
  obtain ⟨n, rfl⟩ : ∃ n : Nat, bt = n := ⟨bt.toNat, by omega⟩
  have hn : n < l.length := by omega
  obtain ⟨b, off, c0, d0, rfl, -, hbw, hc0, hd0, hx⟩ := RSl.at2 h n hn
  obtain ⟨a', cap', rfl, rfl, hl1, -, hI⟩ := hx.open
  by_cases b3 : k < 0
  · have HE := Lib.hid (HO.out 6 (fun n m hn hm hh => by omega) rfl)
    go_enter Tryz.func10, Tryz.ntmps10
    go_wp2_with (go_at_call 26; refine HC.out.mono ?_; rintro e w1 ⟨rfl, hb1⟩; obtain ⟨gx1, hcx1, hfx1⟩ := own_box hb1 (by simp) hbx; have hl1 := hb1.size; have hlt1 := size_of_box gx1)
    exact bodyPost_ret (v := .tuple #[.agg #[.int .u8 0, .slice none 0 0], .int .i64 6]) (by simp [results, Tryz.results10, go_sem, hcx1]) rfl (AtGives.none HE.out ((hb0.trans (hb1.mono (by simp))).setCell (p := ⟨w.heap.size, 0, none⟩) (Nat.le_refl _) _ |>.setCell (p := ⟨w.heap.size, 1, none⟩) (Nat.le_refl _) _))
  have hlen : l[n].blts.length ≤ 1000000 := (hsm.2 _ (List.getElem_mem hn)).1
  by_cases b4 : (l[n].blts.length : Int) ≤ k
  · have HE := Lib.hid (HO.out 6 (fun n' m hn' hm hh => by (obtain rfl : n' = n := (by omega)); omega) rfl)
    go_enter Tryz.func10, Tryz.ntmps10
    go_wp2_with (first | (go_at_call 26; refine HC.out.mono ?_; rintro e w1 ⟨rfl, hb1⟩; obtain ⟨gx1, hcx1, hfx1⟩ := own_box hb1 (by simp) hbx; have hl1 := hb1.size; have hlt1 := size_of_box gx1; have hd1 := (Same.of_below (S := Any) (hb0.trans (hb1.mono (by simp)))).cell trivial hd0))
    exact bodyPost_ret (v := .tuple #[.agg #[.int .u8 0, .slice none 0 0], .int .i64 6]) (by simp [results, Tryz.results10, go_sem, hcx1]) rfl (AtGives.none HE.out ((hb0.trans (hb1.mono (by simp))).setCell (p := ⟨w.heap.size, 0, none⟩) (Nat.le_refl _) _ |>.setCell (p := ⟨w.heap.size, 1, none⟩) (Nat.le_refl _) _))
  obtain ⟨m, rfl⟩ : ∃ m : Nat, k = m := ⟨k.toNat, by omega⟩
  have hm : m < l[n].blts.length := by omega
  obtain ⟨b2, off2, c2, d2, rfl, -, hbw2, hc2, hd2, hy⟩ := RSl.at2 hI m hm
  obtain ⟨hE1, hE2⟩ := HS.out n m rfl rfl hn hm
  have hmk : l[n].blts[m].marks.length ≤ 1000000 := (hsm.2 _ (List.getElem_mem hn)).2 _ (List.getElem_mem hm)
  have hCp : ∀ W, Below w.heap.size w W → Calls Tryz.prog 29 #[.agg #[c2, d2]] W fun e w' => ∃ d, e = .returned (.agg #[.int .u8 l[n].blts[m].kind, d]) ∧ wBlt (Span W.heap.size w'.heap.size) w' [.int .u8 l[n].blts[m].kind, d] l[n].blts[m] ∧ Below W.heap.size W w' :=
    fun W hW => copied2 S _ l[n].blts[m] W ⟨_, _, rfl, dBlt.stable S _ _ _ _ (.of_below hW) hy⟩ (by omega)
  obtain ⟨a2, cap2, rfl, rfl, -⟩ := hy.open
  have HCp := Lib.hid hCp; have HE1 := Lib.hid hE1; have HE2 := Lib.hid hE2; clear hCp hE1 hE2 hy hx hI
  go_enter Tryz.func10, Tryz.ntmps10
  go_wp2_with (first
    | (go_at_call 26; refine HC.out.mono ?_; rintro e w1 ⟨rfl, hb1⟩; obtain ⟨gx1, hcx1, hfx1⟩ := own_box hb1 (by simp) hbx; have hl1 := hb1.size; have hlt1 := size_of_box gx1; have hq1 : Below w.heap.size w w1 := hb0.trans (hb1.mono (by simp)); have hc1 := (Same.of_below (S := Any) hq1).cell trivial hc0; have hd1 := (Same.of_below (S := Any) hq1).cell trivial hd0; have hc3 := (Same.of_below (S := Any) hq1).cell trivial hc2; have hd3 := (Same.of_below (S := Any) hq1).cell trivial hd2)
    | (go_at_call 29; refine (HCp.out _ hq1).mono ?_; rintro e w2 ⟨d3, rfl, hv2, hb2⟩; obtain ⟨a4, c4, -, rfl, -⟩ := hv2.toD.open; obtain ⟨gx2, hcx2, hfx2⟩ := own_box hb2 hlt1 gx1; have hq2 := hq1.trans (hb2.mono hq1.size)))
  refine bodyPost_ret (v := .tuple #[.agg #[.int .u8 l[n].blts[m].kind, .slice a4 l[n].blts[m].marks.length c4], .int .i64 0]) (by simp [results, Tryz.results10, go_sem, hcx2]) rfl (AtGives.some (base := w1.heap.size) HE1.out HE2.out (x := l[n].blts[m]) ?_ (by omega) ((hq2.setCell (p := ⟨w.heap.size, 0, none⟩) (Nat.le_refl _) _).setCell (p := ⟨w.heap.size, 1, none⟩) (Nat.le_refl _) _))
  refine ⟨_, _, rfl, (wBlt.stable _ _ _ _ _ (((Same.refl _ _).setCell (p := ⟨w.heap.size, 0, none⟩) ?_ _).setCell (p := ⟨w.heap.size, 1, none⟩) ?_ _) hv2).mono fun b hb => hb.1⟩
  · exact fun hb => Nat.lt_irrefl _ (Nat.lt_of_lt_of_le hlt1 hb.1)
  · exact fun hb => Nat.lt_irrefl _ (Nat.lt_of_lt_of_le hlt1 hb.1)

end Go.Proofs.YtopdfijojjbjdaaGreat
