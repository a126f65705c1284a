/- The contracts of the reference's TakeField and Split; what splitting gives. -/
import Derived.Test.YtkjgddcjhikdgaaOct
namespace Go.Proofs.Ytkjgddcjhikdgaa
open Go Go.RowKit Go.Shelf

set_option maxHeartbeats 1000000 in
theorem refTakeField (S : Nat → Prop) (v : Value) (xs : List Int) (p : Nat) (w : World) (h : RBytes S w v xs) (hp : p ≤ xs.length) (hl : xs.length ≤ 1000000) :
    Calls Try.prog 130 #[v, .int .i64 p] w (TakeGives xs p w) := by
  by_cases hs : xs.length < p + 2
  · have hg : takeG xs p = none := by rw [takeG, if_pos hs]
    obtain ⟨a, cap, rfl, h1, h2⟩ := RSl.shape h
    have hle : (p : Int) ≤ (xs.length : Int) := by omega
    have hlt : (xs.length : Int) < (p : Int) + 2 := by omega
    have Hg := Lib.hid hg; clear hg h
    go_enter Try.func130, Try.ntmps130
    go_wp2
    go_ret3
    rw [TakeGives, Hg.out]
    exact ⟨rfl, Below.refl _ _⟩
  obtain ⟨a, cap, rfl, h1, h2⟩ := RSl.shape h
  obtain ⟨b, off, rfl, hb, hc0, h00, h01⟩ := RBytes.byte h (k := p) (by omega)
  obtain ⟨b', off', e, -, hc1, h10, h11⟩ := RBytes.byte h (k := p + 1) (by omega)
  have hn : numAt xs p = xs[p] * 256 + xs[p + 1] := by rw [numAt, getD_at0 (by omega), getD_at0 (by omega)]
  obtain ⟨N, hN⟩ : ∃ N : Nat, numAt xs p = N := ⟨(numAt xs p).toNat, by omega⟩
  have hNb : N ≤ 65535 := by omega
  have hgd : takeG xs p = if xs.length < p + 2 + N then none else some ((xs.drop (p + 2)).take N, p + 2 + N) := by rw [takeG, if_neg hs, hN]; rfl
  have hcap := RSl.cap h
  have hle : (p : Int) ≤ (xs.length : Int) := by omega
  have hge : ¬ (xs.length : Int) < (p : Int) + 2 := by omega
  have hNum : ∀ m cc, m = 2 → 2 ≤ cc → Calls Try.prog 165 #[.slice (some ⟨b, off + p, none⟩) m cc] w fun e w' => e = .returned (.int .u64 N) ∧ w = w' := fun m cc hm hcc => by
    subst hm
    have hsub := RSl.sub h (p := p) (q := p + 2) (by omega) (by omega) (cap' := cc) (by omega)
    have hl2 : (xs.drop p).take (p + 2 - p) = [xs[p], xs[p + 1]] := by
      rw [show p + 2 - p = 2 by omega, List.drop_eq_getElem_cons (by omega), List.drop_eq_getElem_cons (by omega)]
      rfl
    rw [hl2, show p + 2 - p = 2 by omega] at hsub
    have := refNumber S _ _ _ w hsub
    rw [← hn, hN] at this
    exact this
  clear e hc0 hc1 h00 h01 h10 h11 hn hN
  by_cases hq : xs.length < p + 2 + N
  · rw [if_pos hq] at hgd
    have hlt : (xs.length : Int) < (p : Int) + 2 + (N : Int) := by omega
    have HNum := Lib.hid hNum; have Hg := Lib.hid hgd; clear hNum hgd h
    go_enter Try.func130, Try.ntmps130
    go_wp2_with (go_at_call 165; refine (HNum.out _ _ (by first | rfl | omega) (by omega)).mono ?_; rintro e w1 ⟨rfl, rfl⟩)
    go_ret3
    rw [TakeGives, Hg.out]
    exact ⟨rfl, Below.refl _ _⟩
  rw [if_neg hq] at hgd
  have hF : ((xs.drop (p + 2)).take N).length = N := by rw [List.length_take, List.length_drop]; omega
  obtain ⟨F, hFe⟩ : ∃ F, F = (xs.drop (p + 2)).take N := ⟨_, rfl⟩
  rw [← hFe] at hgd hF
  have hlt : ¬ (xs.length : Int) < (p : Int) + 2 + (N : Int) := by omega
  have hTw : ∀ a m cc, (a = some ⟨b, off + (p + 2), none⟩ ∨ N = 0) → m = N → N ≤ cc → Calls Try.prog 166 #[.slice a m cc] w (GivesOwn 5 1 (dInt .u8) F w) := fun a m cc ha hm hcc => by
    subst hm
    refine refTwinB S _ F w ?_
    rcases ha with rfl | h0
    · have hsub := RSl.sub h (p := p + 2) (q := p + 2 + m) (by omega) (by omega) (cap' := cc) (by omega)
      have hfl : (xs.drop (p + 2)).take (p + 2 + m - (p + 2)) = F := by rw [show p + 2 + m - (p + 2) = m by omega, hFe]
      rw [hfl, show p + 2 + m - (p + 2) = m by omega] at hsub
      exact hsub
    · subst h0
      have hFn : F = [] := List.eq_nil_of_length_eq_zero hF
      subst hFn
      exact ⟨a, cc, [], rfl, Nat.zero_le _, by simp, Dec.nil _ _ _, .inl rfl⟩
  have HNum := Lib.hid hNum; have HTw := Lib.hid hTw; have Hg := Lib.hid hgd; clear hNum hTw hgd h hFe hF
  rcases Nat.eq_zero_or_pos N with h0 | h0
  · subst h0
    go_enter Try.func130, Try.ntmps130
    go_wp2_with (first
      | (go_at_call 165; refine (HNum.out _ _ (by first | rfl | omega) (by omega)).mono ?_; rintro e w1 ⟨rfl, rfl⟩)
      | (go_at_call 166; refine (HTw.out _ _ _ (by simp) (by first | rfl | omega) (by omega)).mono ?_; rintro e w2 ⟨v2, rfl, ho2, hb2⟩; obtain ⟨a1, c1, rfl⟩ := id (Own.shape ho2); have Ho2 := Lib.hid ho2; clear ho2))
    all_goals
      go_ret3
      rw [TakeGives, Hg.out]
      exact ⟨a1, c1, by first | rfl | simp, Ho2.out, hb2⟩
  · have hcne : ¬ cap = p + 2 := by omega
    go_enter Try.func130, Try.ntmps130
    go_wp2_with (first
      | (go_at_call 165; refine (HNum.out _ _ (by first | rfl | omega) (by omega)).mono ?_; rintro e w1 ⟨rfl, rfl⟩)
      | (go_at_call 166; refine (HTw.out _ _ _ (.inl rfl) (by first | rfl | omega) (by omega)).mono ?_; rintro e w2 ⟨v2, rfl, ho2, hb2⟩; obtain ⟨a1, c1, rfl⟩ := id (Own.shape ho2); have Ho2 := Lib.hid ho2; clear ho2))
    all_goals
      go_ret3
      rw [TakeGives, Hg.out]
      exact ⟨a1, c1, by first | rfl | simp, Ho2.out, hb2⟩

/-- The fields from a place on, by fuel. -/
def splitG (xs : List Int) : Nat → Nat → Option (List (List Int))
  | 0, p => if p < xs.length then none else some []
  | f + 1, p => if p < xs.length then (match takeG xs p with | none => none | some (x, q) => (splitG xs f q).map (x :: ·)) else some []
theorem takeG_some {xs : List Int} {p : Nat} {x : List Int} {q : Nat} (h : takeG xs p = some (x, q)) : p + 2 ≤ q ∧ q ≤ xs.length ∧ x.length ≤ 65535 + xs.length := by
  unfold takeG at h
  split at h
  · cases h
  · split at h
    · cases h
    · simp at h
      obtain ⟨rfl, rfl⟩ := h
      refine ⟨by omega, by omega, ?_⟩
      rw [List.length_take, List.length_drop]; omega
/-- What splitting gives: the error, and the fields. -/
def splitE (xs : List Int) : Int := if 16384 < xs.length then 4 else match splitG xs xs.length 0 with | none => 10 | some _ => 0
def splitV (xs : List Int) : List (List Int) := if 16384 < xs.length then [] else (splitG xs xs.length 0).getD []
/-- Fields in memory: each a row of bytes. -/
def dField (S : Nat → Prop) (w : World) (cs : List Value) (x : List Int) : Prop := ∃ v, cs = [v] ∧ RBytes S w v x
theorem dField.stable (S : Nat → Prop) : Stable S (dField S) := fun _ _ _ _ hs ⟨v, h1, h2⟩ => ⟨v, h1, h2.same hs⟩
theorem dField.mono {S T : Nat → Prop} {w : World} {cs : List Value} {x : List Int} (hT : ∀ b, S b → T b) (h : dField S w cs x) : dField T w cs x := let ⟨v, h1, h2⟩ := h; ⟨v, h1, RSl.mono (fun _ _ _ h => h) hT h2⟩
theorem dField.one (S : Nat → Prop) : OneC (dField S) := by
  intro w cs x h u hu; obtain ⟨v, rfl, hv⟩ := h; simp at hu; subst hu; exact slice_one hv
theorem famField : Fam dField := ⟨fun h x => dField.mono h x, dField.stable, dField.one⟩
end Go.Proofs.Ytkjgddcjhikdgaa
