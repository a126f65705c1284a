/- The contracts of the row's fits, of the closure of may, and of slices.IndexFunc and ContainsFunc at ballots and batches. -/
import Derived.Test.YtkjgddcjhikdgaaBal2
import Derived.Test.YtkjgddcjhikdgaaName
import Derived.Shelf.Abstract
namespace Go.Proofs.Ytkjgddcjhikdgaa
open Go Go.RowKit Go.Shelf

/-- Valid among c candidates and of a kind: 'fits'. -/
def fitsB (x : Blt) (c kind : Int) : Bool := decide (x.kind = kind) && decide (checkB x c = 0)

set_option maxHeartbeats 400000 in
theorem fits (S : Nat → Prop) (c0 c1 v : Value) (x : Blt) (c kind : Int) (w : World) (h : VBlt S w v x) :
    Calls Try.prog 71 #[.agg #[c0, c1, .int .i64 c, .int .u8 kind], v] w fun e w' => e = .returned (.bool (fitsB x c kind)) ∧ Below w.heap.size w w' := by
  have h0 := h
  obtain ⟨cc, d, rfl, hB⟩ := h
  obtain ⟨a, cap, rfl, rfl, hl, -, -, -⟩ := hB.open
  have hb0 : Below w.heap.size w ((w.alloc (.cells #[c0, c1, .int .i64 c, .int .u8 kind] 121)).alloc (.cells #[.int .u8 x.kind, .slice a x.marks.length cap] 25)) := ((Below.refl _ _).alloc (Nat.le_refl _) _).alloc (by simp) _
  have hF := ballotCheck S _ x c _ (h0.same (.of_below hb0))
  have HF := Lib.hid hF; clear hF
  by_cases hk : x.kind = kind
  · have hk' : (x.kind == kind) = true := by simpa using hk
    have Hk := Lib.hid hk; clear hk
    go_enter Try.func71, Try.ntmps71
    go_wp2_with (go_at_call 122; refine HF.out.mono ?_; rintro e w1 ⟨rfl, hb1⟩)
    go_ret
    exact ⟨ret_bool (by rw [fitsB, decide_eq_true Hk.out, Bool.true_and]; rfl), hb0.trans (hb1.mono (by simp; omega))⟩
  · have hk' : (x.kind == kind) = false := by simpa using hk
    have Hk := Lib.hid hk; clear hk
    go_enter Try.func71, Try.ntmps71
    go_wp2_with (go_at_call 122; refine HF.out.mono ?_; rintro e w1 ⟨rfl, hb1⟩)
    go_ret
    exact ⟨ret_bool (by rw [fitsB, decide_eq_false Hk.out, Bool.false_and]), hb0⟩

/-- The place of the first of which p holds, or -1. -/
def idxB {α : Type} (p : α → Bool) : List α → Int
  | [] => -1
  | x :: l => if p x then 0 else (if idxB p l < 0 then -1 else idxB p l + 1)

theorem idxB_ge {α : Type} (p : α → Bool) : ∀ l : List α, -1 ≤ idxB p l
  | [] => by simp [idxB]
  | x :: l => by have := idxB_ge p l; simp only [idxB]; repeat' split <;> omega
theorem idxB_at {α : Type} {p : α → Bool} : ∀ {l : List α} {k : Nat} (hk : k < l.length), (l.take k).any p = false → p l[k] = true → idxB p l = k
  | [], _, hk, _, _ => by simp at hk
  | x :: l, 0, _, _, hp => by simp only [List.getElem_cons_zero] at hp; simp [idxB, hp]
  | x :: l, k + 1, hk, h, hp => by
    simp only [List.take_succ_cons, List.any_cons, Bool.or_eq_false_iff] at h
    have := idxB_at (l := l) (k := k) (by simpa using hk) h.2 (by simpa using hp)
    simp only [idxB, h.1, this, Bool.false_eq_true, if_false]
    rw [if_neg (by omega)]
    omega
theorem idxB_none {α : Type} {p : α → Bool} : ∀ {l : List α}, l.any p = false → idxB p l = -1
  | [], _ => rfl
  | x :: l, h => by
    simp only [List.any_cons, Bool.or_eq_false_iff] at h
    simp [idxB, h.1, idxB_none h.2]
theorem idxB_iff {α : Type} (p : α → Bool) : ∀ l : List α, 0 ≤ idxB p l ↔ l.any p = true
  | [] => by simp [idxB]
  | x :: l => by
    have h1 := idxB_iff p l
    have h2 := idxB_ge p l
    unfold idxB
    by_cases hp : p x = true
    · simp [hp]
    · rw [if_neg hp, List.any_cons]
      rw [Bool.not_eq_true] at hp
      rw [hp, Bool.false_or, ← h1]
      split <;> omega
theorem idxB_any {α : Type} (p : α → Bool) (l : List α) : decide (0 ≤ idxB p l) = l.any p := by
  rw [Bool.eq_iff_iff, decide_eq_true_iff]; exact idxB_iff p l

set_option maxHeartbeats 400000 in
theorem indexBlt (S : Nat → Prop) (v : Value) (xs : List Blt) (w : World) (h : RBlts S w v xs) (g : Nat) (lb : Array Value) (eg : ∀ args w, (callFunc g args).run Try.prog w = .ok (.enter g args) w) (p : Blt → Bool)
    (hp : ∀ W x c d, Below w.heap.size w W → dBlt S W [c, d] x → Calls Try.prog g (#[.agg #[c, d]] ++ lb) W (fun e w' => e = .returned (.bool (p x)) ∧ Below W.heap.size W w')) :
    Calls Try.prog 158 #[v, .func (.func g) #[] lb] w fun e w' => e = .returned (.int .i64 (idxB p xs)) ∧ Below w.heap.size w w' := by
  obtain ⟨a, cap, rfl, h1, h2⟩ := RSl.shape h
  have HP := Lib.hid hp; clear hp
  go_enter Try.func158, Try.ntmps158
  go_wp2
  go_loopw [8] (fun i wr => ∃ k : Nat, k ≤ xs.length ∧ i = .int .i64 k ∧ Hid ((xs.take k).any p = false) ∧ Below w.heap.size w wr) (fun i _ => xs.length - (intOf i).toNat)
  case atStart => exact ⟨0, Nat.zero_le _, rfl, Lib.hid rfl, Below.refl _ _⟩
  case round =>
    obtain ⟨k, hk, rfl, hg, hb⟩ := hrel
    by_cases hlt : k < xs.length
    · obtain ⟨b, off, c, d, rfl, hS, hbw, hc, hd, hx⟩ := RSl.at2 (h.same (.of_below hb)) k hlt
      have hP := HP.out wr xs[k] c d hb hx
      cases hpk : p xs[k]
      · rw [hpk] at hP
        have HPk := Lib.hid hP; have Hpk := Lib.hid hpk; clear hP hpk
        go_wp2_with (go_at_fn g; refine HPk.out.mono ?_; rintro e w1 ⟨rfl, hb1⟩)
        exact ⟨⟨k + 1, by omega, by go_num, Lib.hid (by rw [any_take_succ _ _ _ hlt, hg.out, Hpk.out]; rfl), hb.trans (hb1.mono hb.size)⟩, by simp [intOf]; omega⟩
      · rw [hpk] at hP
        have HPk := Lib.hid hP; have Hpk := Lib.hid hpk; clear hP hpk
        go_wp2_with (go_at_fn g; refine HPk.out.mono ?_; rintro e w1 ⟨rfl, hb1⟩)
        go_ret
        exact ⟨ret_int (idxB_at hlt hg.out Hpk.out).symm, hb.trans (hb1.mono hb.size)⟩
    · go_wp2
      go_ret
      rw [List.take_of_length_le (by omega)] at hg
      exact ⟨ret_int (idxB_none hg.out).symm, hb⟩
set_option maxHeartbeats 400000 in
theorem containsBlt (S : Nat → Prop) (v : Value) (xs : List Blt) (w : World) (h : RBlts S w v xs) (g : Nat) (lb : Array Value) (eg : ∀ args w, (callFunc g args).run Try.prog w = .ok (.enter g args) w) (p : Blt → Bool)
    (hp : ∀ W x c d, Below w.heap.size w W → dBlt S W [c, d] x → Calls Try.prog g (#[.agg #[c, d]] ++ lb) W (fun e w' => e = .returned (.bool (p x)) ∧ Below W.heap.size W w')) :
    Calls Try.prog 120 #[v, .func (.func g) #[] lb] w fun e w' => e = .returned (.bool (xs.any p)) ∧ Below w.heap.size w w' := by
  have hI := indexBlt S v xs w h g lb eg p hp
  obtain ⟨a, cap, rfl, h1, h2⟩ := RSl.shape h
  have HI := Lib.hid hI; clear hI hp
  rw [← idxB_any]
  obtain ⟨I, hIx⟩ : ∃ I, idxB p xs = I := ⟨_, rfl⟩
  rw [hIx] at HI ⊢
  go_enter Try.func120, Try.ntmps120
  go_wp2_with (go_at_call 158; refine HI.out.mono ?_; rintro e w1 ⟨rfl, hb1⟩)
  go_ret
  exact ⟨rfl, hb1⟩
set_option maxHeartbeats 400000 in
theorem indexBtc (S : Nat → Prop) (v : Value) (xs : List Btc) (w : World) (h : RBtcs S w v xs) (g : Nat) (lb : Array Value) (eg : ∀ args w, (callFunc g args).run Try.prog w = .ok (.enter g args) w) (p : Btc → Bool)
    (hp : ∀ W x c d, Below w.heap.size w W → dBtc S W [c, d] x → Calls Try.prog g (#[.agg #[c, d]] ++ lb) W (fun e w' => e = .returned (.bool (p x)) ∧ Below W.heap.size W w')) :
    Calls Try.prog 123 #[v, .func (.func g) #[] lb] w fun e w' => e = .returned (.int .i64 (idxB p xs)) ∧ Below w.heap.size w w' := by
  obtain ⟨a, cap, rfl, h1, h2⟩ := RSl.shape h
  have HP := Lib.hid hp; clear hp
  go_enter Try.func123, Try.ntmps123
  go_wp2
  go_loopw [8] (fun i wr => ∃ k : Nat, k ≤ xs.length ∧ i = .int .i64 k ∧ Hid ((xs.take k).any p = false) ∧ Below w.heap.size w wr) (fun i _ => xs.length - (intOf i).toNat)
  case atStart => exact ⟨0, Nat.zero_le _, rfl, Lib.hid rfl, Below.refl _ _⟩
  case round =>
    obtain ⟨k, hk, rfl, hg, hb⟩ := hrel
    by_cases hlt : k < xs.length
    · obtain ⟨b, off, c, d, rfl, hS, hbw, hc, hd, hx⟩ := RSl.at2 (h.same (.of_below hb)) k hlt
      have hP := HP.out wr xs[k] c d hb hx
      cases hpk : p xs[k]
      · rw [hpk] at hP
        have HPk := Lib.hid hP; have Hpk := Lib.hid hpk; clear hP hpk
        go_wp2_with (go_at_fn g; refine HPk.out.mono ?_; rintro e w1 ⟨rfl, hb1⟩)
        exact ⟨⟨k + 1, by omega, by go_num, Lib.hid (by rw [any_take_succ _ _ _ hlt, hg.out, Hpk.out]; rfl), hb.trans (hb1.mono hb.size)⟩, by simp [intOf]; omega⟩
      · rw [hpk] at hP
        have HPk := Lib.hid hP; have Hpk := Lib.hid hpk; clear hP hpk
        go_wp2_with (go_at_fn g; refine HPk.out.mono ?_; rintro e w1 ⟨rfl, hb1⟩)
        go_ret
        exact ⟨ret_int (idxB_at hlt hg.out Hpk.out).symm, hb.trans (hb1.mono hb.size)⟩
    · go_wp2
      go_ret
      rw [List.take_of_length_le (by omega)] at hg
      exact ⟨ret_int (idxB_none hg.out).symm, hb⟩
set_option maxHeartbeats 400000 in
theorem containsBtc (S : Nat → Prop) (v : Value) (xs : List Btc) (w : World) (h : RBtcs S w v xs) (g : Nat) (lb : Array Value) (eg : ∀ args w, (callFunc g args).run Try.prog w = .ok (.enter g args) w) (p : Btc → Bool)
    (hp : ∀ W x c d, Below w.heap.size w W → dBtc S W [c, d] x → Calls Try.prog g (#[.agg #[c, d]] ++ lb) W (fun e w' => e = .returned (.bool (p x)) ∧ Below W.heap.size W w')) :
    Calls Try.prog 82 #[v, .func (.func g) #[] lb] w fun e w' => e = .returned (.bool (xs.any p)) ∧ Below w.heap.size w w' := by
  have hI := indexBtc S v xs w h g lb eg p hp
  obtain ⟨a, cap, rfl, h1, h2⟩ := RSl.shape h
  have HI := Lib.hid hI; clear hI hp
  rw [← idxB_any]
  obtain ⟨I, hIx⟩ : ∃ I, idxB p xs = I := ⟨_, rfl⟩
  rw [hIx] at HI ⊢
  go_enter Try.func82, Try.ntmps82
  go_wp2_with (go_at_call 123; refine HI.out.mono ?_; rintro e w1 ⟨rfl, hb1⟩)
  go_ret
  exact ⟨rfl, hb1⟩
end Go.Proofs.Ytkjgddcjhikdgaa
