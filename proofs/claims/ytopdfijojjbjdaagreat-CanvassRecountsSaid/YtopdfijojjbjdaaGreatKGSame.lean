/- Texts of one claim, put together: Same, Same3. -/
import Derived.Test.YtopdfijojjbjdaaGreatKGPut

/- The contracts of the references' comparisons: of integers, of ballots, of batches. -/
namespace Go.Proofs.YtopdfijojjbjdaaGreat
open Go Go.RowKit Go.Shelf

/-- Two lists are alike, element by element. -/
def eqL {α : Type} (p : α → α → Bool) : List α → List α → Bool
  | [], [] => true
  | x :: xs, y :: ys => p x y && eqL p xs ys
  | [], _ :: _ => false
  | _ :: _, [] => false
theorem eqL_len {α : Type} {p : α → α → Bool} : ∀ {xs ys : List α}, eqL p xs ys = true → xs.length = ys.length
  | [], [], _ => rfl
  | x :: xs, y :: ys, h => by simp only [eqL, Bool.and_eq_true] at h; simp [eqL_len h.2]
  | [], _ :: _, h => by simp [eqL] at h
  | _ :: _, [], h => by simp [eqL] at h
theorem eqL_get {α : Type} {p : α → α → Bool} : ∀ {xs ys : List α}, eqL p xs ys = true → ∀ k (h1 : k < xs.length) (h2 : k < ys.length), p xs[k] ys[k] = true
  | x :: xs, y :: ys, h, 0, _, _ => by simp only [eqL, Bool.and_eq_true] at h; simpa using h.1
  | x :: xs, y :: ys, h, k + 1, h1, h2 => by simp only [eqL, Bool.and_eq_true] at h; simpa using eqL_get h.2 k (by simpa using h1) (by simpa using h2)
  | [], [], _, _, h1, _ => by simp at h1
  | [], _ :: _, _, _, h1, _ => by simp at h1
  | _ :: _, [], _, _, _, h2 => by simp at h2
theorem eqL_of {α : Type} {p : α → α → Bool} : ∀ {xs ys : List α}, xs.length = ys.length → (∀ k (h1 : k < xs.length) (h2 : k < ys.length), p xs[k] ys[k] = true) → eqL p xs ys = true
  | [], [], _, _ => rfl
  | x :: xs, y :: ys, hl, h => by
    simp only [eqL, Bool.and_eq_true]
    exact ⟨h 0 (by simp) (by simp), eqL_of (by simpa using hl) (fun k h1 h2 => h (k + 1) (by simpa using h1) (by simpa using h2))⟩
  | [], _ :: _, hl, _ => by simp at hl
  | _ :: _, [], hl, _ => by simp at hl
theorem eqL_ne_len {α : Type} {p : α → α → Bool} {xs ys : List α} (h : xs.length ≠ ys.length) : eqL p xs ys = false := by
  cases hb : eqL p xs ys
  · rfl
  · exact absurd (eqL_len hb) h
theorem eqL_ne_at {α : Type} {p : α → α → Bool} {xs ys : List α} (k : Nat) (h1 : k < xs.length) (h2 : k < ys.length) (h : p xs[k] ys[k] = false) : eqL p xs ys = false := by
  cases hb : eqL p xs ys
  · rfl
  · rw [eqL_get hb k h1 h2] at h; cases h
theorem eqL_refl {α : Type} {p : α → α → Bool} (hp : ∀ x, p x x = true) (xs : List α) : eqL p xs xs = true := eqL_of rfl (fun _ _ _ => hp _)
def eqInt (x y : Int) : Bool := decide (x = y)
theorem eqL_int {xs ys : List Int} : eqL eqInt xs ys = true ↔ xs = ys := by
  constructor
  · intro h
    exact List.ext_getElem (eqL_len h) (fun k h1 h2 => by simpa [eqInt] using eqL_get h k h1 h2)
  · rintro rfl; exact eqL_refl (fun x => by simp [eqInt]) _
def eqBlt (x y : Blt) : Bool := decide (x.kind = y.kind) && eqL eqInt x.marks y.marks
def eqBtc (x y : Btc) : Bool := sameName x.name y.name && eqL eqBlt x.blts y.blts
theorem eqBlt_refl (x : Blt) : eqBlt x x = true := by simp [eqBlt, eqL_refl (p := eqInt) (fun x => by simp [eqInt])]
theorem eqBtc_refl (x : Btc) : eqBtc x x = true := by simp [eqBtc, sameName, eqL_refl eqBlt_refl]

end Go.Proofs.YtopdfijojjbjdaaGreat

/- The contracts of the record's comparison of batches: slices.Equal, slices.EqualFunc at ballots and batches, ballot.Same, record.Same. -/
namespace Go.Proofs.YtopdfijojjbjdaaGreat
open Go Go.RowKit Go.Shelf

set_option maxHeartbeats 1000000 in
theorem eqIntsL (S T : Nat → Prop) (u v : Value) (xs ys : List Int) (w : World) (hx : RInts S w u xs) (hy : RInts T w v ys) :
    Calls Tryz.prog 36 #[u, v] w fun e w' => e = .returned (.bool (eqL eqInt xs ys)) ∧ Below w.heap.size w w' := by
  obtain ⟨a1, cap1, rfl, hx1, hx2⟩ := RSl.shape hx
  obtain ⟨a2, cap2, rfl, hy1, hy2⟩ := RSl.shape hy
  by_cases hl : xs.length = ys.length
  case neg =>
    have hl' : ((xs.length : Int) != (ys.length : Int)) = true := by simpa using (by omega : ¬ (xs.length : Int) = ys.length)
    have hr := eqL_ne_len (p := eqInt) hl
    have Hr := Lib.hid hr; clear hr hl
    go_enter Tryz.func36, Tryz.ntmps36
    go_wp2
    go_ret
    exact ⟨ret_bool Hr.out.symm, Below.refl _ _⟩
  have hl' : ((xs.length : Int) != (ys.length : Int)) = false := by simpa using (by omega : (xs.length : Int) = ys.length)
  have Hl := Lib.hid hl; clear hl
  go_enter Tryz.func36, Tryz.ntmps36
  go_wp2
  go_loopw [13] (fun i wr => ∃ k : Nat, k ≤ xs.length ∧ i = .int .i64 k ∧ Hid (∀ j (h1 : j < xs.length) (h2 : j < ys.length), j < k → eqInt xs[j] ys[j] = true) ∧ Below w.heap.size w wr) (fun i _ => xs.length - (intOf i).toNat)
  case atStart => exact ⟨0, Nat.zero_le _, rfl, Lib.hid (fun _ _ _ h => by omega), Below.refl _ _⟩
  case round =>
    obtain ⟨k, hk, rfl, hg, hb⟩ := hrel
    by_cases hlt : k < xs.length
    · have hlt2 : k < ys.length := by have := Hl.out; omega
      obtain ⟨b, off, c, rfl, hS, hbw, hc, hdx⟩ := RSl.at1 hx k hlt
      obtain ⟨b2, off2, c2, rfl, hS2, hbw2, hc2, hdy⟩ := RSl.at1 hy k hlt2
      obtain ⟨rfl, -⟩ := hdx.open
      obtain ⟨rfl, -⟩ := hdy.open
      have e1 := fun p => cell_ext (w := wr) ((Same.of_below (S := Any) hb).cell trivial hc) p
      have e2 := fun p => cell_ext (w := wr) ((Same.of_below (S := Any) hb).cell trivial hc2) p
      clear hc hc2
      by_cases he : xs[k] = ys[k]
      · have he' : (xs[k] != ys[k]) = false := by simpa using he
        have He := Lib.hid he; clear he
        go_wp2
        refine wp_region_ext (by kernel_rfl) (by kernel_rfl) ?_
        repeat (go_big_quiet_step (fail))
        refine wpQuiet_nil ?_
        intro _ hw'; obtain ⟨p, rfl⟩ := hw'
        go_wp2
        refine ⟨⟨k + 1, by omega, by go_num, Lib.hid (fun j h1 h2 hj => ?_), hb.trans ((below_ext wr p).mono hb.size)⟩, by simp [intOf]; omega⟩
        by_cases e : j = k
        · subst e; simp [eqInt, He.out]
        · exact hg.out j h1 h2 (by omega)
      · have he' : (xs[k] != ys[k]) = true := by simpa using he
        have hr := eqL_ne_at (p := eqInt) k hlt hlt2 (by simpa [eqInt] using he)
        have Hr := Lib.hid hr; clear he hr
        go_wp2
        refine wp_region_ext (by kernel_rfl) (by kernel_rfl) ?_
        repeat (go_big_quiet_step (fail))
        refine wpQuiet_nil ?_
        intro _ hw'; obtain ⟨p, rfl⟩ := hw'
        go_wp2
        go_ret
        exact ⟨ret_bool Hr.out.symm, hb.trans ((below_ext wr p).mono hb.size)⟩
    · go_wp2
      go_ret
      exact ⟨ret_bool (eqL_of Hl.out (fun j h1 h2 => hg.out j h1 h2 (by omega))).symm, hb⟩

set_option maxHeartbeats 1000000 in
theorem ballotSame (S T : Nat → Prop) (u v : Value) (x y : Blt) (w : World) (hx : VBlt S w u x) (hy : VBlt T w v y) :
    Calls Tryz.prog 21 #[u, v] w fun e w' => e = .returned (.bool (eqBlt x y)) ∧ Below w.heap.size w w' := by
  obtain ⟨c1, d1, rfl, hBx⟩ := hx
  obtain ⟨a1, cap1, rfl, rfl, hl1, -, -, hI1⟩ := hBx.open
  obtain ⟨c2, d2, rfl, hBy⟩ := hy
  obtain ⟨a2, cap2, rfl, rfl, hl2, -, -, hI2⟩ := hBy.open
  clear hBx hBy
  have hb0 : Below w.heap.size w ((w.alloc (.cells #[.int .u8 x.kind, .slice a1 x.marks.length cap1] 41)).alloc (.cells #[.int .u8 y.kind, .slice a2 y.marks.length cap2] 41)) := ((Below.refl _ _).alloc (Nat.le_refl _) _).alloc (by simp) _
  have hF := eqIntsL S T _ _ _ _ _ (hI1.same (.of_below hb0)) (hI2.same (.of_below hb0))
  have HF := Lib.hid hF; clear hF
  by_cases hk : x.kind = y.kind
  · have hk' : (x.kind == y.kind) = true := by simpa using hk
    have Hk := Lib.hid hk; clear hk
    go_enter Tryz.func21, Tryz.ntmps21
    go_wp2_with (go_at_call 36; refine HF.out.mono ?_; rintro e w1 ⟨rfl, hb1⟩)
    go_ret
    exact ⟨ret_bool (by rw [eqBlt, decide_eq_true Hk.out, Bool.true_and]), hb0.trans (hb1.mono (by simp; omega))⟩
  · have hk' : (x.kind == y.kind) = false := by simpa using hk
    have Hk := Lib.hid hk; clear hk
    go_enter Tryz.func21, Tryz.ntmps21
    go_wp2_with (go_at_call 36; refine HF.out.mono ?_; rintro e w1 ⟨rfl, hb1⟩)
    go_ret
    exact ⟨ret_bool (by rw [eqBlt, decide_eq_false Hk.out, Bool.false_and]), hb0⟩
set_option maxHeartbeats 1000000 in
theorem eqBlts (S T : Nat → Prop) (u v : Value) (xs ys : List Blt) (w : World) (hx : RBlts S w u xs) (hy : RBlts T w v ys) (g : Nat) (eg : ∀ args w, (callFunc g args).run Tryz.prog w = .ok (.enter g args) w) (q : Blt → Blt → Bool)
    (hq : ∀ W x y c d c' d', Below w.heap.size w W → dBlt S W [c, d] x → dBlt T W [c', d'] y → Calls Tryz.prog g #[.agg #[c, d], .agg #[c', d']] W (fun e w' => e = .returned (.bool (q x y)) ∧ Below W.heap.size W w')) :
    Calls Tryz.prog 25 #[u, v, .func (.func g) #[] #[]] w fun e w' => e = .returned (.bool (eqL q xs ys)) ∧ Below w.heap.size w w' := by
  obtain ⟨a1, cap1, rfl, hx1, hx2⟩ := RSl.shape hx
  obtain ⟨a2, cap2, rfl, hy1, hy2⟩ := RSl.shape hy
  have HQ := Lib.hid hq; clear hq
  by_cases hl : xs.length = ys.length
  case neg =>
    have hl' : ((xs.length : Int) != (ys.length : Int)) = true := by simpa using (by omega : ¬ (xs.length : Int) = ys.length)
    have hr := eqL_ne_len (p := q) hl
    have Hr := Lib.hid hr; clear hr hl
    go_enter Tryz.func25, Tryz.ntmps25
    go_wp2
    go_ret
    exact ⟨ret_bool Hr.out.symm, Below.refl _ _⟩
  have hl' : ((xs.length : Int) != (ys.length : Int)) = false := by simpa using (by omega : (xs.length : Int) = ys.length)
  have Hl := Lib.hid hl; clear hl
  go_enter Tryz.func25, Tryz.ntmps25
  go_wp2
  go_loopw [17] (fun i wr => ∃ k : Nat, k ≤ xs.length ∧ i = .int .i64 k ∧ Hid (∀ j (h1 : j < xs.length) (h2 : j < ys.length), j < k → q xs[j] ys[j] = true) ∧ Below w.heap.size w wr) (fun i _ => xs.length - (intOf i).toNat)
  case atStart => exact ⟨0, Nat.zero_le _, rfl, Lib.hid (fun _ _ _ h => by omega), Below.refl _ _⟩
  case round =>
    obtain ⟨k, hk, rfl, hg, hb⟩ := hrel
    by_cases hlt : k < xs.length
    · have hlt2 : k < ys.length := by have := Hl.out; omega
      obtain ⟨b, off, c, d, rfl, hS, hbw, hc, hd, hdx⟩ := RSl.at2 (hx.same (.of_below hb)) k hlt
      obtain ⟨b2, off2, c2, d2, rfl, hS2, hbw2, hc2, hd2, hdy⟩ := RSl.at2 (hy.same (.of_below hb)) k hlt2
      have hP : ∀ W, Below wr.heap.size wr W → Calls Tryz.prog g #[.agg #[c, d], .agg #[c2, d2]] W (fun e w' => e = .returned (.bool (q xs[k] ys[k])) ∧ Below W.heap.size W w') :=
        fun W hW => HQ.out W xs[k] ys[k] c d c2 d2 (hb.trans (hW.mono hb.size)) (dBlt.stable S _ _ _ _ (.of_below hW) hdx) (dBlt.stable T _ _ _ _ (.of_below hW) hdy)
      obtain ⟨ax, capx, rfl, rfl, -⟩ := hdx.open
      obtain ⟨ay, capy, rfl, rfl, -⟩ := hdy.open
      clear hdx hdy
      cases hpk : q xs[k] ys[k]
      · rw [hpk] at hP
        have hr := eqL_ne_at (p := q) k hlt hlt2 hpk
        have HP := Lib.hid hP; have Hr := Lib.hid hr; clear hP hpk hr
        go_wp2_with (go_at_fn g; refine (HP.out _ (((Below.refl _ _).alloc (Nat.le_refl _) _).alloc (by simp) _)).mono ?_; rintro e w1 ⟨rfl, hb1⟩)
        go_ret
        exact ⟨ret_bool Hr.out.symm, hb.trans (((((Below.refl _ _).alloc (Nat.le_refl _) _).alloc (by simp) _).trans (hb1.mono (by simp; omega))).mono hb.size)⟩
      · rw [hpk] at hP
        have HP := Lib.hid hP; have Hpk := Lib.hid hpk; clear hP hpk
        go_wp2_with (go_at_fn g; refine (HP.out _ (((Below.refl _ _).alloc (Nat.le_refl _) _).alloc (by simp) _)).mono ?_; rintro e w1 ⟨rfl, hb1⟩)
        refine ⟨⟨k + 1, by omega, by go_num, Lib.hid (fun j h1 h2 hj => ?_), hb.trans (((((Below.refl _ _).alloc (Nat.le_refl _) _).alloc (by simp) _).trans (hb1.mono (by simp; omega))).mono hb.size)⟩, by simp [intOf]; omega⟩
        by_cases e : j = k
        · subst e; exact Hpk.out
        · exact hg.out j h1 h2 (by omega)
    · go_wp2
      go_ret
      exact ⟨ret_bool (eqL_of Hl.out (fun j h1 h2 => hg.out j h1 h2 (by omega))).symm, hb⟩

set_option maxHeartbeats 1000000 in
theorem eqBtcs (S T : Nat → Prop) (u v : Value) (xs ys : List Btc) (w : World) (hx : RBtcs S w u xs) (hy : RBtcs T w v ys) (g : Nat) (eg : ∀ args w, (callFunc g args).run Tryz.prog w = .ok (.enter g args) w) (q : Btc → Btc → Bool)
    (hq : ∀ W x y c d c' d', Below w.heap.size w W → dBtc S W [c, d] x → dBtc T W [c', d'] y → Calls Tryz.prog g #[.agg #[c, d], .agg #[c', d']] W (fun e w' => e = .returned (.bool (q x y)) ∧ Below W.heap.size W w')) :
    Calls Tryz.prog 23 #[u, v, .func (.func g) #[] #[]] w fun e w' => e = .returned (.bool (eqL q xs ys)) ∧ Below w.heap.size w w' := by
  obtain ⟨a1, cap1, rfl, hx1, hx2⟩ := RSl.shape hx
  obtain ⟨a2, cap2, rfl, hy1, hy2⟩ := RSl.shape hy
  have HQ := Lib.hid hq; clear hq
  by_cases hl : xs.length = ys.length
  case neg =>
    have hl' : ((xs.length : Int) != (ys.length : Int)) = true := by simpa using (by omega : ¬ (xs.length : Int) = ys.length)
    have hr := eqL_ne_len (p := q) hl
    have Hr := Lib.hid hr; clear hr hl
    go_enter Tryz.func23, Tryz.ntmps23
    go_wp2
    go_ret
    exact ⟨ret_bool Hr.out.symm, Below.refl _ _⟩
  have hl' : ((xs.length : Int) != (ys.length : Int)) = false := by simpa using (by omega : (xs.length : Int) = ys.length)
  have Hl := Lib.hid hl; clear hl
  go_enter Tryz.func23, Tryz.ntmps23
  go_wp2
  go_loopw [17] (fun i wr => ∃ k : Nat, k ≤ xs.length ∧ i = .int .i64 k ∧ Hid (∀ j (h1 : j < xs.length) (h2 : j < ys.length), j < k → q xs[j] ys[j] = true) ∧ Below w.heap.size w wr) (fun i _ => xs.length - (intOf i).toNat)
  case atStart => exact ⟨0, Nat.zero_le _, rfl, Lib.hid (fun _ _ _ h => by omega), Below.refl _ _⟩
  case round =>
    obtain ⟨k, hk, rfl, hg, hb⟩ := hrel
    by_cases hlt : k < xs.length
    · have hlt2 : k < ys.length := by have := Hl.out; omega
      obtain ⟨b, off, c, d, rfl, hS, hbw, hc, hd, hdx⟩ := RSl.at2 (hx.same (.of_below hb)) k hlt
      obtain ⟨b2, off2, c2, d2, rfl, hS2, hbw2, hc2, hd2, hdy⟩ := RSl.at2 (hy.same (.of_below hb)) k hlt2
      have hP : ∀ W, Below wr.heap.size wr W → Calls Tryz.prog g #[.agg #[c, d], .agg #[c2, d2]] W (fun e w' => e = .returned (.bool (q xs[k] ys[k])) ∧ Below W.heap.size W w') :=
        fun W hW => HQ.out W xs[k] ys[k] c d c2 d2 (hb.trans (hW.mono hb.size)) (dBtc.stable S _ _ _ _ (.of_below hW) hdx) (dBtc.stable T _ _ _ _ (.of_below hW) hdy)
      obtain ⟨ax, capx, rfl, rfl, -⟩ := hdx.open
      obtain ⟨ay, capy, rfl, rfl, -⟩ := hdy.open
      clear hdx hdy
      cases hpk : q xs[k] ys[k]
      · rw [hpk] at hP
        have hr := eqL_ne_at (p := q) k hlt hlt2 hpk
        have HP := Lib.hid hP; have Hr := Lib.hid hr; clear hP hpk hr
        go_wp2_with (go_at_fn g; refine (HP.out _ (((Below.refl _ _).alloc (Nat.le_refl _) _).alloc (by simp) _)).mono ?_; rintro e w1 ⟨rfl, hb1⟩)
        go_ret
        exact ⟨ret_bool Hr.out.symm, hb.trans (((((Below.refl _ _).alloc (Nat.le_refl _) _).alloc (by simp) _).trans (hb1.mono (by simp; omega))).mono hb.size)⟩
      · rw [hpk] at hP
        have HP := Lib.hid hP; have Hpk := Lib.hid hpk; clear hP hpk
        go_wp2_with (go_at_fn g; refine (HP.out _ (((Below.refl _ _).alloc (Nat.le_refl _) _).alloc (by simp) _)).mono ?_; rintro e w1 ⟨rfl, hb1⟩)
        refine ⟨⟨k + 1, by omega, by go_num, Lib.hid (fun j h1 h2 hj => ?_), hb.trans (((((Below.refl _ _).alloc (Nat.le_refl _) _).alloc (by simp) _).trans (hb1.mono (by simp; omega))).mono hb.size)⟩, by simp [intOf]; omega⟩
        by_cases e : j = k
        · subst e; exact Hpk.out
        · exact hg.out j h1 h2 (by omega)
    · go_wp2
      go_ret
      exact ⟨ret_bool (eqL_of Hl.out (fun j h1 h2 => hg.out j h1 h2 (by omega))).symm, hb⟩

set_option maxHeartbeats 400000 in
theorem same1 (S T : Nat → Prop) (c d c' d' : Value) (x y : Btc) (w : World) (hx : dBtc S w [c, d] x) (hy : dBtc T w [c', d'] y) :
    Calls Tryz.prog 24 #[.agg #[c, d], .agg #[c', d']] w fun e w' => e = .returned (.bool (eqBtc x y)) ∧ Below w.heap.size w w' := by
  obtain ⟨a1, cap1, rfl, rfl, -, -, hI1⟩ := hx.open
  obtain ⟨a2, cap2, rfl, rfl, -, -, hI2⟩ := hy.open
  clear hx hy
  have hb0 : Below w.heap.size w ((w.alloc (.cells #[.string x.name, .slice a1 x.blts.length cap1] 55)).alloc (.cells #[.string y.name, .slice a2 y.blts.length cap2] 55)) := ((Below.refl _ _).alloc (Nat.le_refl _) _).alloc (by simp) _
  have hF := eqBlts S T _ _ _ _ _ (RBlts.same (.of_below hb0) hI1) (RBlts.same (.of_below hb0) hI2) 21 (enters_of Tryz.func21 (by kernel_rfl) rfl) eqBlt
    (fun W x y c d c' d' _ hx hy => ballotSame S T _ _ x y W ⟨_, _, rfl, hx⟩ ⟨_, _, rfl, hy⟩)
  have HF := Lib.hid hF; clear hF
  cases hn : (x.name.toList == y.name.toList)
  · have he : eqBtc x y = false := by rw [eqBtc, sameName, hn]; rfl
    have He := Lib.hid he; clear he
    go_enter Tryz.func24, Tryz.ntmps24
    go_wp2_with (go_at_call 25; refine HF.out.mono ?_; rintro e w1 ⟨rfl, hb1⟩)
    go_ret
    exact ⟨ret_bool He.out.symm, hb0⟩
  · have he : eqBtc x y = eqL eqBlt x.blts y.blts := by rw [eqBtc, sameName, hn]; rfl
    have He := Lib.hid he; clear he
    go_enter Tryz.func24, Tryz.ntmps24
    go_wp2_with (go_at_call 25; refine HF.out.mono ?_; rintro e w1 ⟨rfl, hb1⟩)
    go_ret
    exact ⟨ret_bool He.out.symm, hb0.trans (hb1.mono (by simp; omega))⟩
set_option maxHeartbeats 400000 in
theorem recordSame (S T : Nat → Prop) (u v : Value) (xs ys : List Btc) (w : World) (hx : RBtcs S w u xs) (hy : RBtcs T w v ys) :
    Calls Tryz.prog 8 #[u, v] w fun e w' => e = .returned (.bool (eqL eqBtc xs ys)) ∧ Below w.heap.size w w' := by
  have hF := eqBtcs S T _ _ _ _ _ hx hy 24 (enters_of Tryz.func24 (by kernel_rfl) rfl) eqBtc
    (fun W x y c d c' d' _ hx hy => same1 S T _ _ _ _ x y W hx hy)
  obtain ⟨a1, cap1, rfl, -, -⟩ := RSl.shape hx
  obtain ⟨a2, cap2, rfl, -, -⟩ := RSl.shape hy
  have HF := Lib.hid hF; clear hF
  go_enter Tryz.func8, Tryz.ntmps8
  go_wp2_with (go_at_call 23; refine HF.out.mono ?_; rintro e w1 ⟨rfl, hb1⟩)
  go_ret
  exact ⟨rfl, hb1⟩
end Go.Proofs.YtopdfijojjbjdaaGreat
