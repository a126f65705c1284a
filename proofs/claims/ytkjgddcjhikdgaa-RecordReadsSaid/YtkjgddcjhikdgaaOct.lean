/- Fields in bytes: what taking one gives; the contracts of octet.Take and TakeField, and of the reference's Number, Twin and TakeField. -/
import Derived.Test.YtkjgddcjhikdgaaSizes
import Derived.Laws.BitsAllLaws
namespace Go.Proofs.Ytkjgddcjhikdgaa
open Go Go.RowKit Go.Shelf

def RBytes (S : Nat → Prop) (w : World) (v : Value) (xs : List Int) : Prop := RSl S 1 (dInt .u8) w v xs
theorem RBytes.same {S : Nat → Prop} {w w' : World} {v : Value} {xs : List Int} (hs : Same S w w') (h : RBytes S w v xs) : RBytes S w' v xs := RSl.same (dInt.stable S _) hs h
theorem wf_u8' {x : Int} (h : (Lit.int .u8 x).wf = true) : 0 ≤ x ∧ x ≤ 255 := by
  simp [Lit.wf, IntKind.min, IntKind.max, IntKind.bits, IntKind.signed] at h
  omega
/-- The number at a place: two bytes, the greater first. -/
def numAt (b : List Int) (at_ : Nat) : Int := b.getD at_ 0 * 256 + b.getD (at_ + 1) 0
theorem getD_at0 {l : List Int} {k : Nat} (h : k < l.length) : l.getD k 0 = l[k] := by simp [List.getD, h]
theorem RBytes.byte {S : Nat → Prop} {w : World} {a : Option Addr} {n cap : Nat} {xs : List Int} (h : RBytes S w (.slice a n cap) xs) {k : Nat} (hk : k < xs.length) :
    ∃ b off, a = some ⟨b, off, none⟩ ∧ b < w.heap.size ∧ w.cell? ⟨b, off + k, none⟩ = some (.int .u8 xs[k]) ∧ 0 ≤ xs[k] ∧ xs[k] ≤ 255 := by
  obtain ⟨b, off, c, rfl, -, hb, hc, hd⟩ := RSl.at1 h k hk
  obtain ⟨rfl, hw⟩ := hd.open
  exact ⟨b, off, rfl, hb, hc, wf_u8' hw⟩
theorem or_bytes (x y : Int) (h0 : 0 ≤ x) (h1 : x ≤ 255) (h2 : 0 ≤ y) (h3 : y ≤ 255) : bits .or .u64 (x * 256) y = x * 256 + y := by
  obtain ⟨a, rfl⟩ : ∃ a : Nat, x = a := ⟨x.toNat, by omega⟩
  obtain ⟨b, rfl⟩ : ∃ b : Nat, y = b := ⟨y.toNat, by omega⟩
  have hb : b < 2 ^ 8 := by omega
  have h := u64_or_nat (a * 256) b (by omega) (by omega)
  have e : a * 256 ||| b = a * 256 + b := by
    have := Nat.shiftLeft_add_eq_or_of_lt hb a
    rw [Nat.shiftLeft_eq, show (2 : Nat) ^ 8 = 256 from rfl] at this
    exact this.symm
  rw [e] at h
  rw [show ((a : Int) * 256) = ((a * 256 : Nat) : Int) by omega, h]
  omega
theorem or_zero (x : Int) (h0 : 0 ≤ x) (h1 : x ≤ 255) : bits .or .u64 0 x = x := by
  have := or_bytes 0 x (by omega) (by omega) h0 h1
  rw [Int.zero_mul, Int.zero_add] at this
  exact this
set_option maxHeartbeats 400000 in
theorem octTake_short (S : Nat → Prop) (v : Value) (xs : List Int) (p : Nat) (w : World) (h : RBytes S w v xs) (hp : p ≤ xs.length) (hs : xs.length < p + 2) :
    Calls Try.prog 191 #[v, .int .i64 p, .int .i64 2] w fun e w' => e = .returned (.tuple #[.int .u64 0, .int .i64 0, .int .i64 10]) ∧ w = w' := by
  obtain ⟨a, cap, rfl, h1, h2⟩ := RSl.shape h
  have hlt : (xs.length : Int) - (p : Int) < 2 := by omega
  have hle : (p : Int) ≤ (xs.length : Int) := by omega
  go_enter Try.func191, Try.ntmps191
  go_wp2
  go_ret3
  exact ⟨rfl, rfl⟩
set_option maxHeartbeats 400000 in
theorem octTake (S : Nat → Prop) (v : Value) (xs : List Int) (p : Nat) (w : World) (h : RBytes S w v xs) (hs : p + 2 ≤ xs.length) :
    Calls Try.prog 191 #[v, .int .i64 p, .int .i64 2] w fun e w' => e = .returned (.tuple #[.int .u64 (numAt xs p), .int .i64 (p + 2 : Nat), .int .i64 0]) ∧ w = w' := by
  obtain ⟨a, cap, rfl, h1, h2⟩ := RSl.shape h
  have hlt : ¬ (xs.length : Int) - (p : Int) < 2 := by omega
  have hle : (p : Int) ≤ (xs.length : Int) := by omega
  obtain ⟨b, off, rfl, hb, hc0, h00, h01⟩ := RBytes.byte h (k := p) (by omega)
  obtain ⟨b', off', e, -, hc1, h10, h11⟩ := RBytes.byte h (k := p + 1) (by omega)
  simp only [Option.some.injEq, Addr.mk.injEq, and_true] at e
  obtain ⟨rfl, rfl⟩ := e
  have hn : numAt xs p = xs[p] * 256 + xs[p + 1] := by rw [numAt, getD_at0 (by omega), getD_at0 (by omega)]
  obtain ⟨x, hx⟩ : ∃ x, x = xs[p] := ⟨_, rfl⟩
  obtain ⟨y, hy⟩ : ∃ y, y = xs[p + 1] := ⟨_, rfl⟩
  rw [← hx] at hc0 h00 h01 hn
  rw [← hy] at hc1 h10 h11 hn
  have Hn := Lib.hid hn
  clear hn hx hy h
  go_enter Try.func191, Try.ntmps191
  go_wp2
  go_loop [6, 33] (fun n i => (i = .int .i64 0 ∧ n = .int .u64 0) ∨ (i = .int .i64 1 ∧ n = .int .u64 x) ∨ (i = .int .i64 2 ∧ n = .int .u64 (x * 256 + y))) (fun _ i => 2 - (intOf i).toNat)
  case atStart => exact .inl ⟨rfl, rfl⟩
  case round =>
    rcases hrel with ⟨rfl, rfl⟩ | ⟨rfl, rfl⟩ | ⟨rfl, rfl⟩
    · go_wp2
      exact ⟨.inr (.inl ⟨rfl, by rw [or_zero x h00 h01]⟩), by simp [intOf]⟩
    · go_wp2
      exact ⟨.inr (.inr ⟨rfl, by rw [or_bytes x y h00 h01 h10 h11]⟩), by simp [intOf]⟩
    · go_wp2
      go_ret3
      exact ⟨by rw [Hn.out]; rfl, rfl⟩
/-- A field taken: its bytes, and where the next one begins. -/
def takeG (xs : List Int) (p : Nat) : Option (List Int × Nat) :=
  if xs.length < p + 2 then none else if xs.length < p + 2 + (numAt xs p).toNat then none else some ((xs.drop (p + 2)).take (numAt xs p).toNat, p + 2 + (numAt xs p).toNat)
theorem Try.infoU8 : (Try.prog.info? 5).map (fun i => (i.zero, i.size, i.bytes)) = some (some (.int .u8 0), 1, 1) := by kernel_rfl
/-- A part of a slice. -/
theorem RSl.sub {α : Type} {S : Nat → Prop} {dec : World → List Value → α → Prop} {w : World} {b off n cap : Nat} {xs : List α} (h : RSl S 1 dec w (.slice (some ⟨b, off, none⟩) n cap) xs) {p q : Nat} (hpq : p ≤ q) (hq : q ≤ xs.length) {cap' : Nat} (hc : q - p ≤ cap') :
    RSl S 1 dec w (.slice (some ⟨b, off + p, none⟩) (q - p) cap') ((xs.drop p).take (q - p)) := by
  obtain ⟨a, cp, cells, hv, h1, h2, h3, h4⟩ := h
  simp only [Value.slice.injEq] at hv
  obtain ⟨rfl, -, rfl⟩ := hv
  have hl : ((xs.drop p).take (q - p)).length = q - p := by rw [List.length_take, List.length_drop]; omega
  have hcl : cells.length = xs.length := by have := h3.1; omega
  refine ⟨_, cap', (cells.drop p).take (q - p), by rw [hl], by rw [hl]; exact hc, by rw [hl]; omega, ⟨by rw [hl, List.length_take, List.length_drop]; omega, fun i hi => ?_⟩, ?_⟩
  · rw [hl] at hi
    have := h3.2 (p + i) (by omega)
    rw [Nat.mul_one] at this ⊢
    rw [List.getElem_take, List.getElem_drop, List.drop_take, List.drop_drop, List.take_take, Nat.min_eq_left (by omega)]
    exact this
  · rcases h4 with h4 | ⟨b', off', ha, hS, hc'⟩
    · left; rw [h4]; simp
    · simp only [Option.some.injEq, Addr.mk.injEq, and_true] at ha
      obtain ⟨rfl, rfl⟩ := ha
      refine .inr ⟨b, off + p, rfl, hS, fun j u hu => ?_⟩
      rw [List.getElem?_take] at hu
      split at hu
      · rw [List.getElem?_drop] at hu
        have := hc' (p + j) u hu
        rwa [← Nat.add_assoc] at this
      · cases hu
set_option maxHeartbeats 400000 in
theorem refNumber (S : Nat → Prop) (v : Value) (x y : Int) (w : World) (h : RBytes S w v [x, y]) :
    Calls Try.prog 165 #[v] w fun e w' => e = .returned (.int .u64 (x * 256 + y)) ∧ w = w' := by
  obtain ⟨a, cap, rfl, h1, h2⟩ := RSl.shape h
  obtain ⟨b, off, rfl, hb, hc0, h00, h01⟩ := RBytes.byte h (k := 0) (by simp)
  obtain ⟨b', off', e, -, hc1, h10, h11⟩ := RBytes.byte h (k := 1) (by simp)
  simp only [Option.some.injEq, Addr.mk.injEq, and_true] at e
  obtain ⟨rfl, rfl⟩ := e
  simp only [List.getElem_cons_zero, List.getElem_cons_succ, Nat.add_zero] at hc0 hc1 h00 h01 h10 h11
  clear h
  go_enter Try.func165, Try.ntmps165
  go_wp2
  go_loop [3, 4] (fun n i => (i = .int .i64 0 ∧ n = .int .u64 0) ∨ (i = .int .i64 1 ∧ n = .int .u64 x) ∨ (i = .int .i64 2 ∧ n = .int .u64 (x * 256 + y))) (fun _ i => 2 - (intOf i).toNat)
  case atStart => exact .inl ⟨rfl, rfl⟩
  case round =>
    rcases hrel with ⟨rfl, rfl⟩ | ⟨rfl, rfl⟩ | ⟨rfl, rfl⟩
    · go_wp2
      exact ⟨.inr (.inl ⟨rfl, by first | rfl | simp⟩), by simp [intOf]⟩
    · go_wp2
      exact ⟨.inr (.inr ⟨rfl, by first | rfl | simp⟩), by simp [intOf]⟩
    · go_wp2
      go_ret
      exact ⟨rfl, rfl⟩
set_option maxHeartbeats 400000 in
theorem refTwinB (S : Nat → Prop) (v : Value) (xs : List Int) (w : World) (h : RBytes S w v xs) :
    Calls Try.prog 166 #[v] w (GivesOwn 5 1 (dInt .u8) xs w) := by
  obtain ⟨a, cap, rfl, h1, h2⟩ := RSl.shape h
  go_enter Try.func166, Try.ntmps166
  go_wp2_with (at_builtin; go_must (refine wpList_app _ Try.infoU8 rfl rfl Try.underlying61 ⟨rfl, by omega, by omega⟩ (dInt.one _) (dInt.stable (fun _ => False) _) w.heap.size (Own.nil _ _ _ _ _) rfl h rfl (by simp; omega) (Nat.le_refl _) ?_); intro a1 c1 w1 hg hat ho1; have ho2 := ho1 (fun _ _ h => h.elim); have hb1 : Below w.heap.size w w1 := (Below.refl _ _).grown hg (Nat.le_refl _) (by simp [Value.ownBlock]); have Ho2 := Lib.hid ho2; clear ho1 ho2 hg hat)
  go_ret
  exact ⟨_, rfl, by simpa using Ho2.out, hb1⟩
/-- What a call of TakeField gives: the error, or the field in memory of its own. -/
def TakeGives (xs : List Int) (p : Nat) (w : World) (e : Ending) (w' : World) : Prop :=
  match takeG xs p with
  | none => e = .returned (.tuple #[.slice none 0 0, .int .i64 0, .int .i64 10]) ∧ Below w.heap.size w w'
  | some (f, q) => ∃ a c, e = .returned (.tuple #[.slice a f.length c, .int .i64 (q : Nat), .int .i64 0]) ∧ Own w.heap.size 5 1 (dInt .u8) w' (.slice a f.length c) f ∧ Below w.heap.size w w'
set_option maxHeartbeats 1000000 in
theorem octTakeField (S : Nat → Prop) (v : Value) (xs : List Int) (p : Nat) (w : World) (h : RBytes S w v xs) (hp : p ≤ xs.length) (hl : xs.length ≤ 1000000) :
    Calls Try.prog 164 #[v, .int .i64 p] w (TakeGives xs p w) := by
  by_cases hs : xs.length < p + 2
  · have hT := octTake_short S v xs p w h hp hs
    have hg : takeG xs p = none := by rw [takeG, if_pos hs]
    obtain ⟨a, cap, rfl, h1, h2⟩ := RSl.shape h
    have HT := Lib.hid hT; have Hg := Lib.hid hg; clear hT hg h
    go_enter Try.func164, Try.ntmps164
    go_wp2_with (go_at_call 191; refine HT.out.mono ?_; rintro e w1 ⟨rfl, rfl⟩)
    go_ret3
    rw [TakeGives, Hg.out]
    exact ⟨rfl, Below.refl _ _⟩
  have hT := octTake S v xs p w h (by omega)
  obtain ⟨a, cap, rfl, h1, h2⟩ := RSl.shape h
  obtain ⟨b, off, rfl, hb, hc0, h00, h01⟩ := RBytes.byte h (k := p) (by omega)
  obtain ⟨b', off', e, -, hc1, h10, h11⟩ := RBytes.byte h (k := p + 1) (by omega)
  have hn : numAt xs p = xs[p] * 256 + xs[p + 1] := by rw [numAt, getD_at0 (by omega), getD_at0 (by omega)]
  obtain ⟨N, hN⟩ : ∃ N : Nat, numAt xs p = N := ⟨(numAt xs p).toNat, by omega⟩
  have hNb : N ≤ 65535 := by omega
  have hgd : takeG xs p = if xs.length < p + 2 + N then none else some ((xs.drop (p + 2)).take N, p + 2 + N) := by rw [takeG, if_neg hs, hN]; rfl
  rw [hN] at hT
  clear e hc0 hc1 h00 h01 h10 h11 hn hN
  by_cases hq : xs.length < p + 2 + N
  · rw [if_pos hq] at hgd
    have hlt : (xs.length : Int) - ((p + 2 : Nat) : Int) < (N : Int) := by omega
    have HT := Lib.hid hT; have Hg := Lib.hid hgd; clear hT hgd h
    go_enter Try.func164, Try.ntmps164
    go_wp2_with (go_at_call 191; refine HT.out.mono ?_; rintro e w1 ⟨rfl, rfl⟩)
    go_ret3
    rw [TakeGives, Hg.out]
    exact ⟨rfl, Below.refl _ _⟩
  rw [if_neg hq] at hgd
  have hlt : ¬ (xs.length : Int) - ((p + 2 : Nat) : Int) < (N : Int) := by omega
  have hcap := RSl.cap h
  have hF : ((xs.drop (p + 2)).take N).length = N := by rw [List.length_take, List.length_drop]; omega
  obtain ⟨F, hFe⟩ : ∃ F, F = (xs.drop (p + 2)).take N := ⟨_, rfl⟩
  rw [← hFe] at hgd hF
  rcases Nat.eq_zero_or_pos N with h0 | h0
  · subst h0
    have hFn : F = [] := List.eq_nil_of_length_eq_zero hF
    subst hFn
    have hu : ∀ a c, RSl S 1 (dInt .u8) w (.slice a 0 c) [] := fun a c => ⟨a, c, [], rfl, Nat.zero_le _, by simp, Dec.nil _ _ _, .inl rfl⟩
    have HT := Lib.hid hT; have Hg := Lib.hid hgd; have Hu := Lib.hid hu; clear hT hgd h hu hFe hF
    go_enter Try.func164, Try.ntmps164
    go_wp2_with (first
      | (go_at_call 191; refine HT.out.mono ?_; rintro e w1 ⟨rfl, rfl⟩)
      | (at_builtin; go_must (refine wpList_app _ Try.infoU8 rfl rfl Try.underlying61 ⟨rfl, by omega, by omega⟩ (dInt.one _) (dInt.stable (fun _ => False) _) w.heap.size (Own.nil _ _ _ _ _) rfl (Hu.out _ _) rfl (by simp) (Nat.le_refl _) ?_); intro a1 c1 w1 hg hat ho1; have ho2 := ho1 (fun _ _ h => h.elim); have hb1 : Below w.heap.size w w1 := (Below.refl _ _).grown hg (Nat.le_refl _) (by simp [Value.ownBlock]); have Ho2 := Lib.hid ho2; clear ho1 ho2 hg hat))
    all_goals
      go_ret3
      rw [TakeGives, Hg.out]
      exact ⟨a1, c1, by first | rfl | simp, by simpa using Ho2.out, hb1⟩
  · have hsub := RSl.sub h (p := p + 2) (q := p + 2 + N) (by omega) (by omega) (cap' := cap - (p + 2)) (by omega)
    have hfl : (xs.drop (p + 2)).take (p + 2 + N - (p + 2)) = F := by rw [show p + 2 + N - (p + 2) = N by omega, hFe]
    rw [hfl] at hsub
    clear hfl
    have hcne : ¬ cap = p + 2 := by omega
    have HT := Lib.hid hT; have Hg := Lib.hid hgd; have Hsub := Lib.hid hsub; have HF := Lib.hid hF; clear hT hgd h hsub hFe hF
    go_enter Try.func164, Try.ntmps164
    go_wp2_with (first
      | (go_at_call 191; refine HT.out.mono ?_; rintro e w1 ⟨rfl, rfl⟩)
      | (at_builtin; go_must (refine wpList_app _ Try.infoU8 rfl rfl Try.underlying61 ⟨rfl, by omega, by omega⟩ (dInt.one _) (dInt.stable (fun _ => False) _) w.heap.size (Own.nil _ _ _ _ _) rfl Hsub.out rfl (by have := HF.out; simp; omega) (Nat.le_refl _) ?_); intro a1 c1 w1 hg hat ho1; have ho2 := ho1 (fun _ _ h => h.elim); have hb1 : Below w.heap.size w w1 := (Below.refl _ _).grown hg (Nat.le_refl _) (by simp [Value.ownBlock]); have Ho2 := Lib.hid ho2; clear ho1 ho2 hg hat))
    all_goals
      go_ret3
      rw [TakeGives, Hg.out]
      exact ⟨a1, c1, by first | rfl | simp, by simpa using Ho2.out, hb1⟩
end Go.Proofs.Ytkjgddcjhikdgaa
