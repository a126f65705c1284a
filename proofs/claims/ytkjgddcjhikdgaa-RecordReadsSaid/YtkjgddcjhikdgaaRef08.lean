/- The contracts of the reference's ballots: place, Fine, Fits. -/
import Derived.Test.YtkjgddcjhikdgaaChk
namespace Go.Proofs.Ytkjgddcjhikdgaa
open Go Go.RowKit Go.Shelf

set_option maxHeartbeats 400000 in
theorem place08 (S : Nat → Prop) (v : Value) (xs : List Int) (n : Int) (w : World) (h : RInts S w v xs) :
    Calls Try.prog 161 #[v, .int .i64 n] w fun e w' => e = .returned (.int .i64 (idxB (fun m => decide (m = n)) xs)) ∧ w = w' := by
  obtain ⟨a, cap, rfl, h1, h2⟩ := RSl.shape h
  go_enter Try.func161, Try.ntmps161
  go_wp2
  go_loop [5] (fun i => ∃ k : Nat, k ≤ xs.length ∧ i = .int .i64 k ∧ Hid ((xs.take k).any (fun m => decide (m = n)) = false)) (fun i => xs.length - (intOf i).toNat)
  case atStart => exact ⟨0, Nat.zero_le _, rfl, Lib.hid rfl⟩
  case round =>
    obtain ⟨k, hk, rfl, hg⟩ := hrel
    by_cases hlt : k < xs.length
    · obtain ⟨b, off, c, rfl, hS, hbw, hc, hx⟩ := RSl.at1 h k hlt
      obtain ⟨rfl, -⟩ := hx.open
      by_cases he : xs[k] = n
      · have he' : (xs[k] == n) = true := by simpa using he
        have He := Lib.hid he; clear he
        go_wp2
        go_ret
        exact ⟨ret_int (idxB_at hlt hg.out (by simpa using He.out)).symm, rfl⟩
      · have he' : (xs[k] == n) = false := by simpa using he
        have He := Lib.hid he; clear he
        go_wp2
        go_round
        case rel => exact ⟨k + 1, by omega, by go_num, Lib.hid (by rw [any_take_succ _ _ _ hlt, hg.out]; simpa using He.out)⟩
        case measure => simp [intOf]; omega
    · go_wp2
      go_ret
      rw [List.take_of_length_le (by omega)] at hg
      exact ⟨ret_int (idxB_none hg.out).symm, rfl⟩

set_option maxHeartbeats 1000000 in
theorem fineRef_score (S : Nat → Prop) (v : Value) (x : Blt) (c : Int) (w : World) (h : VBlt S w v x) (h3 : x.kind = 3) :
    Calls Try.prog 126 #[v, .int .i64 c] w (FineGives (fineB x c) w) := by
  have hfb : fineB x c = (inB 11 x.marks && decide ((x.marks.length : Int) = c)) := by rw [fineB, if_pos h3]
  rw [hfb]; clear hfb
  obtain ⟨kind, marks⟩ := x
  obtain ⟨cc, d, rfl, hB⟩ := h
  obtain ⟨a, cap, rfl, rfl, hl, -, -, h⟩ := hB.open
  clear hB
  simp only at h3 h hl ⊢
  subst h3
  have hb0 : Below w.heap.size w (w.alloc (.cells #[.int .u8 3, .slice a marks.length cap] 25)) := (Below.refl _ _).alloc (Nat.le_refl _) _
  go_enter Try.func126, Try.ntmps126
  go_wp2
  go_loopw [6] (fun i wr => ∃ k : Nat, k ≤ marks.length ∧ i = .int .i64 k ∧ Hid (∀ j, (hj : j < marks.length) → j < k → 0 ≤ marks[j] ∧ marks[j] < 11) ∧ wr = w.alloc (.cells #[.int .u8 3, .slice a marks.length cap] 25)) (fun i _ => marks.length - (intOf i).toNat)
  case atStart => exact ⟨0, Nat.zero_le _, rfl, Lib.hid (fun j _ h => by omega), rfl⟩
  case round =>
    obtain ⟨k, hk, rfl, hg, rfl⟩ := hrel
    by_cases hlt : k < marks.length
    · obtain ⟨b, off, c0, rfl, hS, hbw, hc, hx⟩ := RSl.at1 (h.same (.of_below hb0)) k hlt
      obtain ⟨rfl, -⟩ := hx.open
      by_cases hi1 : marks[k] < 0
      · go_wp2
        go_ret
        exact ⟨ret_bool (by rw [inB_false k hlt (by omega)]; rfl), hb0⟩
      by_cases hi2 : 10 < marks[k]
      · go_wp2
        go_ret
        exact ⟨ret_bool (by rw [inB_false k hlt (by omega)]; rfl), hb0⟩
      go_wp2
      refine ⟨⟨k + 1, by omega, by go_num, Lib.hid (fun j hj hjk => ?_), trivial⟩, by simp [intOf]; omega⟩
      by_cases e : j = k
      · subst e; omega
      · exact hg.out j hj (by omega)
    · have hin : inB 11 marks = true := List.all_eq_true.2 (fun m hm => by obtain ⟨j, hj, rfl⟩ := List.getElem_of_mem hm; exact decide_eq_true (hg.out j hj (by omega)))
      have Hin := Lib.hid hin; clear hin
      go_wp2
      go_ret
      exact ⟨ret_bool (by rw [Hin.out]; rfl), hb0⟩

set_option maxHeartbeats 400000 in
theorem fineRef_else (S : Nat → Prop) (v : Value) (x : Blt) (c : Int) (w : World) (h : VBlt S w v x) (h1 : x.kind ≠ 1) (h2 : x.kind ≠ 2) (h3 : x.kind ≠ 3) :
    Calls Try.prog 126 #[v, .int .i64 c] w (FineGives (fineB x c) w) := by
  have hfb : fineB x c = false := by rw [fineB, if_neg h3, if_neg h2, if_neg h1]
  rw [hfb]; clear hfb
  obtain ⟨kind, marks⟩ := x
  obtain ⟨cc, d, rfl, hB⟩ := h
  obtain ⟨a, cap, rfl, rfl, hl, -, -, h⟩ := hB.open
  clear hB
  simp only at h1 h2 h3 h hl ⊢
  have e3 : (kind == 3) = false := by simpa using h3
  have e1 : (kind != 1) = true := by simpa using h1
  have e2 : (kind != 2) = true := by simpa using h2
  clear h1 h2 h3
  go_enter Try.func126, Try.ntmps126
  go_wp2
  go_ret
  exact ⟨rfl, (Below.refl _ _).alloc (Nat.le_refl _) _⟩

/-- What a prefix has shown. -/
structure GoodTo (kind c : Int) (l : List Int) (k : Nat) : Prop where
  inr : ∀ j, (hj : j < l.length) → j < k → 0 ≤ l[j] ∧ l[j] < c
  one : ∀ k', (hk' : k' < l.length) → k' < k → ∀ j, (hj : j < k') → l[j] ≠ l[k']
  up : kind = 2 → ∀ i, (hi : i + 1 < l.length) → i + 1 < k → l[i] ≤ l[i + 1]
theorem GoodTo.zero (kind c : Int) (l : List Int) : GoodTo kind c l 0 := ⟨fun _ _ h => by omega, fun _ _ h => by omega, fun _ _ _ h => by omega⟩
theorem GoodTo.succ {kind c : Int} {l : List Int} {k : Nat} (h : GoodTo kind c l k) (hk : k < l.length) (h1 : 0 ≤ l[k] ∧ l[k] < c) (h2 : (l.take k).any (fun m => decide (m = l[k])) = false)
    (h3 : kind = 2 → ∀ i, (hi : i + 1 = k) → l[i] ≤ l[k]) : GoodTo kind c l (k + 1) := by
  refine ⟨fun j hj hjk => ?_, fun k' hk' hlt j hj => ?_, fun hkd i hi hlt => ?_⟩
  · by_cases e : j = k
    · subst e; exact h1
    · exact h.inr j hj (by omega)
  · by_cases e : k' = k
    · subst e
      intro he
      have := List.any_eq_false.1 h2 l[j] (List.mem_take_iff_getElem.2 ⟨j, by omega, rfl⟩)
      simp [he] at this
    · exact h.one k' hk' (by omega) j hj
  · by_cases e : i + 1 = k
    · subst e; exact h3 hkd i rfl
    · exact h.up hkd i hi (by omega)
theorem GoodTo.fine {x : Blt} {c : Int} (h : GoodTo x.kind c x.marks x.marks.length) (hk : x.kind = 1 ∨ x.kind = 2) : fineB x c = true := by
  have hin : inB c x.marks = true := List.all_eq_true.2 (fun m hm => by obtain ⟨j, hj, rfl⟩ := List.getElem_of_mem hm; exact decide_eq_true (h.inr j hj hj))
  have hon : onceB x.marks = true := onceB_of (fun k' hk' j hj => h.one k' hk' hk' j hj)
  rcases hk with hk | hk
  · simp [fineB, hk, hin, hon]
  · have hup : upB x.marks = true := upB_of (fun i hi => h.up hk i hi hi)
    simp [fineB, hk, hin, hon, hup]
theorem fine_not_in {x : Blt} {c : Int} (hk : x.kind = 1 ∨ x.kind = 2) (k : Nat) (hlt : k < x.marks.length) (h : ¬ (0 ≤ x.marks[k] ∧ x.marks[k] < c)) : fineB x c = false := by
  have := inB_false k hlt h
  rcases hk with hk | hk <;> simp [fineB, hk, this]
theorem fine_not_one {x : Blt} {c : Int} (hk : x.kind = 1 ∨ x.kind = 2) (k : Nat) (hlt : k < x.marks.length) (h : (x.marks.take k).any (fun m => decide (m = x.marks[k])) = true) : fineB x c = false := by
  obtain ⟨m, hm, he⟩ := List.any_eq_true.1 h
  obtain ⟨i, hi, rfl⟩ := List.getElem_of_mem hm
  simp only [List.length_take] at hi
  rw [List.getElem_take] at he
  have := onceB_false i k (by omega) hlt (by simpa using he)
  rcases hk with hk | hk <;> simp [fineB, hk, this]
theorem fine_not_up {x : Blt} {c : Int} (hk : x.kind = 2) (i : Nat) (hlt : i + 1 < x.marks.length) (h : x.marks[i + 1] ≤ x.marks[i]) : fineB x c = false := by
  by_cases e : x.marks[i + 1] = x.marks[i]
  · have := onceB_false i (i + 1) (by omega) hlt e.symm
    simp [fineB, hk, this]
  · have := upB_false i hlt (by omega)
    simp [fineB, hk, this]
set_option maxHeartbeats 2000000 in
theorem fineRef_rank (S : Nat → Prop) (v : Value) (x : Blt) (c : Int) (w : World) (h : VBlt S w v x) (h3 : x.kind = 1) :
    Calls Try.prog 126 #[v, .int .i64 c] w (FineGives (fineB x c) w) := by
  obtain ⟨kind, marks⟩ := x
  obtain ⟨cc, d, rfl, hB⟩ := h
  obtain ⟨a, cap, rfl, rfl, hl, -, -, h⟩ := hB.open
  clear hB
  simp only at h3 h hl ⊢
  subst h3
  have hcap := RSl.cap h
  go_enter Try.func126, Try.ntmps126
  go_wp2
  go_loopw [7] (fun i wr => ∃ k : Nat, k ≤ marks.length ∧ i = .int .i64 k ∧ GoodTo 1 c marks k ∧ Below w.heap.size w wr ∧ wr.heap[w.heap.size]? = some (.cells #[.int .u8 1, .slice a marks.length cap] 25 (0, 0))) (fun i _ => marks.length - (intOf i).toNat)
  case atStart => exact ⟨0, Nat.zero_le _, rfl, GoodTo.zero _ _ _, (Below.refl _ _).alloc (Nat.le_refl _) _, box_new _ _⟩
  case round =>
    obtain ⟨k, hk, rfl, hg, hb, hbx⟩ := hrel
    by_cases hlt : k < marks.length
    · obtain ⟨b, off, c0, rfl, hS, hbw0, hc0, hx⟩ := RSl.at1 h k hlt
      obtain ⟨rfl, -⟩ := hx.open
      have hc := (Same.of_below (S := Any) hb).cell trivial hc0
      obtain ⟨-, hbc, hbf⟩ := own_box (Below.refl wr.heap.size wr) (size_of_box hbx) hbx
      by_cases hi1 : marks[k] < 0
      · go_wp2
        go_ret
        exact ⟨ret_bool (fine_not_in (x := ⟨1, marks⟩) (by simp) k hlt (by simp; omega)).symm, hb⟩
      by_cases hi2 : c ≤ marks[k]
      · go_wp2
        go_ret
        exact ⟨ret_bool (fine_not_in (x := ⟨1, marks⟩) (by simp) k hlt (by simp; omega)).symm, hb⟩
      have ekind := fun p => cell_ext (w := wr) (a := ⟨w.heap.size, 0, none⟩) (v := .int .u8 1) (hbc 0) p
      by_cases hpos : (0 : Int) < k
      · have hd1 : decide ((0 : Int) < k) = true := decide_eq_true hpos
        have hd2 : decide (0 < k) = true := decide_eq_true (by omega)
        go_wp2
        refine wp_region_ext (by kernel_rfl) (by kernel_rfl) ?_
        repeat (go_big_quiet_step (fail))
        refine wpQuiet_nil ?_
        intro _ hw'; obtain ⟨p1, rfl⟩ := hw'
        have hbx := (own_box (below_ext wr p1) (size_of_box hbx) hbx).1
        have hbW : Below w.heap.size w (ext wr p1) := hb.trans ((below_ext wr p1).mono hb.size)
        obtain ⟨W, hW⟩ : ∃ W, W = ext wr p1 := ⟨_, rfl⟩
        rw [← hW] at hbx hbW ⊢
        clear hW
        go_wp2
        have hP := fun p => place08 S _ (marks.take (k)) marks[k] (ext W p) (RSl.take (h.same (.of_below (hbW.trans ((below_ext W p).mono hbW.size)))) (k) hk)
        have hcW := fun p => cell_ext (w := W) ((Same.of_below (S := Any) hbW).cell trivial hc0) p
        obtain ⟨I, hI⟩ : ∃ I, idxB (fun m => decide (m = marks[k])) (marks.take (k)) = I := ⟨_, rfl⟩
        have hany : decide (0 ≤ I) = (marks.take (k)).any (fun m => decide (m = marks[k])) := by rw [← hI]; exact idxB_any _ _
        rw [hI] at hP
        have HP := Lib.hid hP; have Hany := Lib.hid hany; clear hP hI hany
        refine wp_region_ext (by kernel_rfl) (by kernel_rfl) ?_
        repeat (go_big_quiet_step ((go_at_call 161; have hh := HP.out; exact calls_ext' (v := .int .i64 I) (hh _))))
        refine wpQuiet_nil ?_
        intro _ hw'; obtain ⟨p2, rfl⟩ := hw'
        have hbW2 := hbW.trans ((below_ext W p2).mono hbW.size)
        go_wp2
        · have hI : 0 ≤ I := by assumption
          go_ret
          exact ⟨ret_bool (fine_not_one (x := ⟨1, marks⟩) (by simp) (k) hlt (by rw [← Hany.out, decide_eq_true hI])).symm, hbW2⟩
        · have hI : I < 0 := by assumption
          exact ⟨⟨k + 1, by omega, by go_num, hg.succ hlt ⟨by omega, by omega⟩ (by rw [← Hany.out]; exact decide_eq_false (by omega)) (fun h => by simp at h), hbW2, (own_box (below_ext W p2) (by have := hbW.size; have := size_of_box hbx; omega) hbx).1⟩, by simp [intOf]; omega⟩
      · have hd1 : decide ((0 : Int) < k) = false := decide_eq_false hpos
        have hd2 : decide (0 < k) = false := decide_eq_false (by omega)
        go_wp2
        refine wp_region_ext (by kernel_rfl) (by kernel_rfl) ?_
        repeat (go_big_quiet_step (fail))
        refine wpQuiet_nil ?_
        intro _ hw'; obtain ⟨p1, rfl⟩ := hw'
        have hbx := (own_box (below_ext wr p1) (size_of_box hbx) hbx).1
        have hbW : Below w.heap.size w (ext wr p1) := hb.trans ((below_ext wr p1).mono hb.size)
        obtain ⟨W, hW⟩ : ∃ W, W = ext wr p1 := ⟨_, rfl⟩
        rw [← hW] at hbx hbW ⊢
        clear hW
        go_wp2
        have hP := fun p => place08 S _ (marks.take (k)) marks[k] (ext W p) (RSl.take (h.same (.of_below (hbW.trans ((below_ext W p).mono hbW.size)))) (k) hk)
        have hcW := fun p => cell_ext (w := W) ((Same.of_below (S := Any) hbW).cell trivial hc0) p
        obtain ⟨I, hI⟩ : ∃ I, idxB (fun m => decide (m = marks[k])) (marks.take (k)) = I := ⟨_, rfl⟩
        have hany : decide (0 ≤ I) = (marks.take (k)).any (fun m => decide (m = marks[k])) := by rw [← hI]; exact idxB_any _ _
        rw [hI] at hP
        have HP := Lib.hid hP; have Hany := Lib.hid hany; clear hP hI hany
        refine wp_region_ext (by kernel_rfl) (by kernel_rfl) ?_
        repeat (go_big_quiet_step ((go_at_call 161; have hh := HP.out; exact calls_ext' (v := .int .i64 I) (hh _))))
        refine wpQuiet_nil ?_
        intro _ hw'; obtain ⟨p2, rfl⟩ := hw'
        have hbW2 := hbW.trans ((below_ext W p2).mono hbW.size)
        go_wp2
        · have hI : 0 ≤ I := by assumption
          go_ret
          exact ⟨ret_bool (fine_not_one (x := ⟨1, marks⟩) (by simp) (k) hlt (by rw [← Hany.out, decide_eq_true hI])).symm, hbW2⟩
        · have hI : I < 0 := by assumption
          exact ⟨⟨k + 1, by omega, by go_num, hg.succ hlt ⟨by omega, by omega⟩ (by rw [← Hany.out]; exact decide_eq_false (by omega)) (fun h => by simp at h), hbW2, (own_box (below_ext W p2) (by have := hbW.size; have := size_of_box hbx; omega) hbx).1⟩, by simp [intOf]; omega⟩
    · have hf : fineB ⟨1, marks⟩ c = true := by
        obtain rfl : k = marks.length := by omega
        exact GoodTo.fine (x := ⟨1, marks⟩) hg (by simp)
      have Hf := Lib.hid hf; clear hf
      go_wp2
      go_ret
      exact ⟨ret_bool Hf.out.symm, hb⟩
set_option maxHeartbeats 2000000 in
theorem fineRef_mark (S : Nat → Prop) (v : Value) (x : Blt) (c : Int) (w : World) (h : VBlt S w v x) (h3 : x.kind = 2) :
    Calls Try.prog 126 #[v, .int .i64 c] w (FineGives (fineB x c) w) := by
  obtain ⟨kind, marks⟩ := x
  obtain ⟨cc, d, rfl, hB⟩ := h
  obtain ⟨a, cap, rfl, rfl, hl, -, -, h⟩ := hB.open
  clear hB
  simp only at h3 h hl ⊢
  subst h3
  have hcap := RSl.cap h
  go_enter Try.func126, Try.ntmps126
  go_wp2
  go_loopw [7] (fun i wr => ∃ k : Nat, k ≤ marks.length ∧ i = .int .i64 k ∧ GoodTo 2 c marks k ∧ Below w.heap.size w wr ∧ wr.heap[w.heap.size]? = some (.cells #[.int .u8 2, .slice a marks.length cap] 25 (0, 0))) (fun i _ => marks.length - (intOf i).toNat)
  case atStart => exact ⟨0, Nat.zero_le _, rfl, GoodTo.zero _ _ _, (Below.refl _ _).alloc (Nat.le_refl _) _, box_new _ _⟩
  case round =>
    obtain ⟨k, hk, rfl, hg, hb, hbx⟩ := hrel
    by_cases hlt : k < marks.length
    · obtain ⟨b, off, c0, rfl, hS, hbw0, hc0, hx⟩ := RSl.at1 h k hlt
      obtain ⟨rfl, -⟩ := hx.open
      have hc := (Same.of_below (S := Any) hb).cell trivial hc0
      obtain ⟨-, hbc, hbf⟩ := own_box (Below.refl wr.heap.size wr) (size_of_box hbx) hbx
      by_cases hi1 : marks[k] < 0
      · go_wp2
        go_ret
        exact ⟨ret_bool (fine_not_in (x := ⟨2, marks⟩) (by simp) k hlt (by simp; omega)).symm, hb⟩
      by_cases hi2 : c ≤ marks[k]
      · go_wp2
        go_ret
        exact ⟨ret_bool (fine_not_in (x := ⟨2, marks⟩) (by simp) k hlt (by simp; omega)).symm, hb⟩
      have ekind := fun p => cell_ext (w := wr) (a := ⟨w.heap.size, 0, none⟩) (v := .int .u8 2) (hbc 0) p
      by_cases hpos : (0 : Int) < k
      · obtain ⟨j, rfl⟩ : ∃ j, k = j + 1 := ⟨k - 1, by omega⟩
        obtain ⟨b2, off2, c2, he2, hS2, hbw2, hd0, hx2⟩ := RSl.at1 h j (by omega)
        obtain ⟨rfl, -⟩ := hx2.open
        simp only [Option.some.injEq, Addr.mk.injEq, and_true] at he2
        obtain ⟨rfl, rfl⟩ := he2
        have e1 := fun p => cell_ext (w := wr) ((Same.of_below (S := Any) hb).cell trivial hc0) p
        have e2 := fun p => cell_ext (w := wr) ((Same.of_below (S := Any) hb).cell trivial hd0) p
        by_cases hle : marks[j + 1] ≤ marks[j]
        · have hd1 : decide (marks[j + 1] ≤ marks[j]) = true := decide_eq_true hle
          go_wp2
          refine wp_region_ext (by kernel_rfl) (by kernel_rfl) ?_
          repeat (go_big_quiet_step (fail))
          refine wpQuiet_nil ?_
          intro _ hw'; obtain ⟨p1, rfl⟩ := hw'
          have hbx := (own_box (below_ext wr p1) (size_of_box hbx) hbx).1
          have hbW : Below w.heap.size w (ext wr p1) := hb.trans ((below_ext wr p1).mono hb.size)
          obtain ⟨W, hW⟩ : ∃ W, W = ext wr p1 := ⟨_, rfl⟩
          rw [← hW] at hbx hbW ⊢
          clear hW
          go_wp2
          go_ret
          exact ⟨ret_bool (fine_not_up (x := ⟨2, marks⟩) rfl j hlt hle).symm, hbW⟩
        · have hd1 : decide (marks[j + 1] ≤ marks[j]) = false := decide_eq_false hle
          go_wp2
          refine wp_region_ext (by kernel_rfl) (by kernel_rfl) ?_
          repeat (go_big_quiet_step (fail))
          refine wpQuiet_nil ?_
          intro _ hw'; obtain ⟨p1, rfl⟩ := hw'
          have hbx := (own_box (below_ext wr p1) (size_of_box hbx) hbx).1
          have hbW : Below w.heap.size w (ext wr p1) := hb.trans ((below_ext wr p1).mono hb.size)
          obtain ⟨W, hW⟩ : ∃ W, W = ext wr p1 := ⟨_, rfl⟩
          rw [← hW] at hbx hbW ⊢
          clear hW
          go_wp2
          have hk : j + 1 ≤ marks.length := hk
          have hP := fun p => place08 S _ (marks.take (j + 1)) marks[j + 1] (ext W p) (RSl.take (h.same (.of_below (hbW.trans ((below_ext W p).mono hbW.size)))) (j + 1) hk)
          have hcW := fun p => cell_ext (w := W) ((Same.of_below (S := Any) hbW).cell trivial hc0) p
          obtain ⟨I, hI⟩ : ∃ I, idxB (fun m => decide (m = marks[j + 1])) (marks.take (j + 1)) = I := ⟨_, rfl⟩
          have hany : decide (0 ≤ I) = (marks.take (j + 1)).any (fun m => decide (m = marks[j + 1])) := by rw [← hI]; exact idxB_any _ _
          rw [hI] at hP
          have HP := Lib.hid hP; have Hany := Lib.hid hany; clear hP hI hany
          refine wp_region_ext (by kernel_rfl) (by kernel_rfl) ?_
          repeat (go_big_quiet_step ((go_at_call 161; have hh := HP.out; exact calls_ext' (v := .int .i64 I) (hh _))))
          refine wpQuiet_nil ?_
          intro _ hw'; obtain ⟨p2, rfl⟩ := hw'
          have hbW2 := hbW.trans ((below_ext W p2).mono hbW.size)
          go_wp2
          · have hI : 0 ≤ I := by assumption
            go_ret
            exact ⟨ret_bool (fine_not_one (x := ⟨2, marks⟩) (by simp) (j + 1) hlt (by rw [← Hany.out, decide_eq_true hI])).symm, hbW2⟩
          · have hI : I < 0 := by assumption
            exact ⟨⟨j + 1 + 1, by omega, by go_num, hg.succ hlt ⟨by omega, by omega⟩ (by rw [← Hany.out]; exact decide_eq_false (by omega)) (fun _ i hi => by obtain rfl : i = j := (by omega); omega), hbW2, (own_box (below_ext W p2) (by have := hbW.size; have := size_of_box hbx; omega) hbx).1⟩, by simp [intOf]; omega⟩
      · have hd1 : decide ((0 : Int) < k) = false := decide_eq_false hpos
        have hd2 : decide (0 < k) = false := decide_eq_false (by omega)
        go_wp2
        refine wp_region_ext (by kernel_rfl) (by kernel_rfl) ?_
        repeat (go_big_quiet_step (fail))
        refine wpQuiet_nil ?_
        intro _ hw'; obtain ⟨p1, rfl⟩ := hw'
        have hbx := (own_box (below_ext wr p1) (size_of_box hbx) hbx).1
        have hbW : Below w.heap.size w (ext wr p1) := hb.trans ((below_ext wr p1).mono hb.size)
        obtain ⟨W, hW⟩ : ∃ W, W = ext wr p1 := ⟨_, rfl⟩
        rw [← hW] at hbx hbW ⊢
        clear hW
        go_wp2
        have hP := fun p => place08 S _ (marks.take (k)) marks[k] (ext W p) (RSl.take (h.same (.of_below (hbW.trans ((below_ext W p).mono hbW.size)))) (k) hk)
        have hcW := fun p => cell_ext (w := W) ((Same.of_below (S := Any) hbW).cell trivial hc0) p
        obtain ⟨I, hI⟩ : ∃ I, idxB (fun m => decide (m = marks[k])) (marks.take (k)) = I := ⟨_, rfl⟩
        have hany : decide (0 ≤ I) = (marks.take (k)).any (fun m => decide (m = marks[k])) := by rw [← hI]; exact idxB_any _ _
        rw [hI] at hP
        have HP := Lib.hid hP; have Hany := Lib.hid hany; clear hP hI hany
        refine wp_region_ext (by kernel_rfl) (by kernel_rfl) ?_
        repeat (go_big_quiet_step ((go_at_call 161; have hh := HP.out; exact calls_ext' (v := .int .i64 I) (hh _))))
        refine wpQuiet_nil ?_
        intro _ hw'; obtain ⟨p2, rfl⟩ := hw'
        have hbW2 := hbW.trans ((below_ext W p2).mono hbW.size)
        go_wp2
        · have hI : 0 ≤ I := by assumption
          go_ret
          exact ⟨ret_bool (fine_not_one (x := ⟨2, marks⟩) (by simp) (k) hlt (by rw [← Hany.out, decide_eq_true hI])).symm, hbW2⟩
        · have hI : I < 0 := by assumption
          exact ⟨⟨k + 1, by omega, by go_num, hg.succ hlt ⟨by omega, by omega⟩ (by rw [← Hany.out]; exact decide_eq_false (by omega)) (fun _ i hi => by omega), hbW2, (own_box (below_ext W p2) (by have := hbW.size; have := size_of_box hbx; omega) hbx).1⟩, by simp [intOf]; omega⟩
    · have hf : fineB ⟨2, marks⟩ c = true := by
        obtain rfl : k = marks.length := by omega
        exact GoodTo.fine (x := ⟨2, marks⟩) hg (by simp)
      have Hf := Lib.hid hf; clear hf
      go_wp2
      go_ret
      exact ⟨ret_bool Hf.out.symm, hb⟩
theorem fineRef (S : Nat → Prop) (v : Value) (x : Blt) (c : Int) (w : World) (h : VBlt S w v x) :
    Calls Try.prog 126 #[v, .int .i64 c] w (FineGives (fineB x c) w) := by
  by_cases h3 : x.kind = 3
  · exact fineRef_score S v x c w h h3
  by_cases h2 : x.kind = 2
  · exact fineRef_mark S v x c w h h2
  by_cases h1 : x.kind = 1
  · exact fineRef_rank S v x c w h h1
  · exact fineRef_else S v x c w h h1 h2 h3
end Go.Proofs.Ytkjgddcjhikdgaa
