/- The contract of spoil: it writes into batches of the call's own; only their shape matters. -/
import Derived.Test.YtkjgddcjhikdgaaWr
import Derived.Test.YtkjgddcjhikdgaaProg
import Derived.WalkSpells
import Derived.WalkLawsBesides
namespace Go.Proofs.Ytkjgddcjhikdgaa
open Go Go.RowKit

/-- Values of one kind. -/
def Like (v u : Value) : Prop := (∃ k i j, v = .int k i ∧ u = .int k j) ∨ (∃ s t, v = .string s ∧ u = .string t) ∨ u = v
def Kin (w w' : World) : Prop := (∀ b, Soft w b → Soft w' b) ∧ ∀ b o v, w.cell? ⟨b, o, none⟩ = some v → ∃ u, w'.cell? ⟨b, o, none⟩ = some u ∧ Like v u
theorem Kin.setCell {w : World} {b o : Nat} {v u : Value} (hc : w.cell? ⟨b, o, none⟩ = some v) (hl : Like v u) : Kin w (w.setCell ⟨b, o, none⟩ u) := by
  refine ⟨fun c h => h.setCell b o u, fun c p x hx => ?_⟩
  by_cases h : (⟨b, o, none⟩ : Addr) = ⟨c, p, none⟩
  · rw [← h] at hx ⊢
    rw [hc] at hx
    cases hx
    exact ⟨u, World.cell?_setCell_same _ _ _ hc, hl⟩
  · exact ⟨x, (World.cell?_setCell_other _ _ _ _ h).trans hx, .inr (.inr rfl)⟩
def ShI (base : Nat) (w : World) (v : Value) (n : Nat) : Prop :=
  ∃ a cap, v = .slice a n cap ∧ n ≤ cap ∧ n ≤ 140737488355328 ∧ ∀ k, k < n → ∃ b off i, a = some ⟨b, off, none⟩ ∧ base ≤ b ∧ Soft w b ∧ w.cell? ⟨b, off + k, none⟩ = some (.int .i64 i)
def ShB (base : Nat) (w : World) (v : Value) (xs : List Nat) : Prop :=
  ∃ a cap, v = .slice a xs.length cap ∧ xs.length ≤ cap ∧ xs.length ≤ 140737488355328 ∧ ∀ k (h : k < xs.length), ∃ b off i d, a = some ⟨b, off, none⟩ ∧ base ≤ b ∧ Soft w b ∧
    w.cell? ⟨b, off + k * 2, none⟩ = some (.int .u8 i) ∧ w.cell? ⟨b, off + k * 2 + 1, none⟩ = some d ∧ ShI base w d xs[k]
def ShC (base : Nat) (w : World) (v : Value) (xs : List (List Nat)) : Prop :=
  ∃ a cap, v = .slice a xs.length cap ∧ xs.length ≤ cap ∧ xs.length ≤ 140737488355328 ∧ ∀ k (h : k < xs.length), ∃ b off i d, a = some ⟨b, off, none⟩ ∧ base ≤ b ∧ Soft w b ∧
    w.cell? ⟨b, off + k * 2, none⟩ = some (.string i) ∧ w.cell? ⟨b, off + k * 2 + 1, none⟩ = some d ∧ ShB base w d xs[k]
theorem Kin.int {w w' : World} (h : Kin w w') {b o : Nat} {k : IntKind} {i : Int} (hc : w.cell? ⟨b, o, none⟩ = some (.int k i)) : ∃ j, w'.cell? ⟨b, o, none⟩ = some (.int k j) := by
  obtain ⟨u, hu, h | h | h⟩ := h.2 _ _ _ hc
  · obtain ⟨k', i', j, e1, e2⟩ := h; cases e1; exact ⟨j, by rw [hu, e2]⟩
  · obtain ⟨s, t, e1, _⟩ := h; cases e1
  · exact ⟨i, by rw [hu, h]⟩
theorem Kin.str {w w' : World} (h : Kin w w') {b o : Nat} {s : ByteArray} (hc : w.cell? ⟨b, o, none⟩ = some (.string s)) : ∃ t, w'.cell? ⟨b, o, none⟩ = some (.string t) := by
  obtain ⟨u, hu, h | h | h⟩ := h.2 _ _ _ hc
  · obtain ⟨k', i', j, e1, e2⟩ := h; cases e1
  · obtain ⟨s', t, e1, e2⟩ := h; exact ⟨t, by rw [hu, e2]⟩
  · exact ⟨s, by rw [hu, h]⟩
theorem Kin.slice {w w' : World} (h : Kin w w') {b o : Nat} {a : Option Addr} {n c : Nat} (hc : w.cell? ⟨b, o, none⟩ = some (.slice a n c)) : w'.cell? ⟨b, o, none⟩ = some (.slice a n c) := by
  obtain ⟨u, hu, h | h | h⟩ := h.2 _ _ _ hc
  · obtain ⟨k', i', j, e1, e2⟩ := h; cases e1
  · obtain ⟨s', t, e1, e2⟩ := h; cases e1
  · rw [hu, h]
theorem ShI.kin {base : Nat} {w w' : World} {v : Value} {n : Nat} (hk : Kin w w') (h : ShI base w v n) : ShI base w' v n := by
  obtain ⟨a, cap, hv, h1, h2, h3⟩ := h
  refine ⟨a, cap, hv, h1, h2, fun k hk' => ?_⟩
  obtain ⟨b, off, i, k1, k2, k3, k4⟩ := h3 k hk'
  obtain ⟨j, hj⟩ := hk.int k4
  exact ⟨b, off, j, k1, k2, hk.1 b k3, hj⟩
theorem ShB.kin {base : Nat} {w w' : World} {v : Value} {xs : List Nat} (hk : Kin w w') (h : ShB base w v xs) : ShB base w' v xs := by
  obtain ⟨a, cap, hv, h1, h2, h3⟩ := h
  refine ⟨a, cap, hv, h1, h2, fun k hk' => ?_⟩
  obtain ⟨b, off, i, d, k1, k2, k3, k4, k5, k6⟩ := h3 k hk'
  obtain ⟨j, hj⟩ := hk.int k4
  obtain ⟨a', cap', rfl, _⟩ := id k6
  exact ⟨b, off, j, _, k1, k2, hk.1 b k3, hj, hk.slice k5, k6.kin hk⟩
theorem ShC.kin {base : Nat} {w w' : World} {v : Value} {xs : List (List Nat)} (hk : Kin w w') (h : ShC base w v xs) : ShC base w' v xs := by
  obtain ⟨a, cap, hv, h1, h2, h3⟩ := h
  refine ⟨a, cap, hv, h1, h2, fun k hk' => ?_⟩
  obtain ⟨b, off, i, d, k1, k2, k3, k4, k5, k6⟩ := h3 k hk'
  obtain ⟨j, hj⟩ := hk.str k4
  obtain ⟨a', cap', rfl, _⟩ := id k6
  exact ⟨b, off, j, _, k1, k2, hk.1 b k3, hj, hk.slice k5, k6.kin hk⟩
theorem ShI.of {S : Nat → Prop} {base : Nat} {w : World} {v : Value} {xs : List Int} (hS : ∀ b, S b → base ≤ b) (h : WSl S 1 (dInt .i64) w v xs) : ShI base w v xs.length := by
  obtain ⟨a, cap, rfl, h1, h2⟩ := RSl.shape h.1
  refine ⟨a, cap, rfl, h1, h2, fun k hk => ?_⟩
  obtain ⟨b, off, c, rfl, k2, k3, k4, k5⟩ := RSl.at1 h.1 k hk
  exact ⟨b, off, _, rfl, hS b k2, h.2 b off _ _ rfl (by omega), by rw [k4, k5.open.1]⟩
theorem ShB.of {S : Nat → Prop} {base : Nat} {w : World} {v : Value} {xs : List Blt} (hS : ∀ b, S b → base ≤ b) (h : WSl S 2 (wBlt S) w v xs) : ShB base w v (xs.map (·.marks.length)) := by
  obtain ⟨a, cap, rfl, h1, h2⟩ := RSl.shape h.1
  refine ⟨a, cap, by simp, by simpa using h1, by simpa using h2, fun k hk => ?_⟩
  obtain ⟨b, off, c, d, rfl, k2, k3, k4, k5, v', k6, -, -, k7⟩ := RSl.at2 h.1 k (by simpa using hk)
  simp only [List.cons.injEq, and_true] at k6
  obtain ⟨rfl, rfl⟩ := k6
  exact ⟨b, off, _, _, rfl, hS b k2, h.2 b off _ _ rfl (by rw [List.length_map] at hk; omega), k4, k5, by rw [List.getElem_map]; exact ShI.of hS k7⟩
def shape (l : List Btc) : List (List Nat) := l.map fun x => x.blts.map (·.marks.length)
theorem ShC.of {S : Nat → Prop} {base : Nat} {w : World} {v : Value} {xs : List Btc} (hS : ∀ b, S b → base ≤ b) (h : WBtcs S w v xs) : ShC base w v (shape xs) := by
  obtain ⟨a, cap, rfl, h1, h2⟩ := RSl.shape h.1
  refine ⟨a, cap, by simp [shape], by simpa [shape] using h1, by simpa [shape] using h2, fun k hk => ?_⟩
  have hk' : k < xs.length := by simpa [shape] using hk
  obtain ⟨b, off, c, d, rfl, k2, k3, k4, k5, v', k6, -, k7⟩ := RSl.at2 h.1 k hk'
  simp only [List.cons.injEq, and_true] at k6
  obtain ⟨rfl, rfl⟩ := k6
  refine ⟨b, off, _, _, rfl, hS b k2, h.2 b off _ _ rfl (by omega), k4, k5, ?_⟩
  have : (shape xs)[k] = xs[k].blts.map (·.marks.length) := by simp [shape]
  rw [this]
  exact ShB.of hS k7

set_option maxHeartbeats 1000000 in
theorem spoil (base : Nat) (v : Value) (xs : List (List Nat)) (w : World) (h : ShC base w v xs) :
    Calls Try.prog 25 #[v] w (fun e w' => (∃ u, e = .returned u) ∧ Below base w w') := by
  obtain ⟨a, cap, rfl, h1, h2, -⟩ := id h
  go_enter Try.func25, Try.ntmps25
  go_wp2
  go_loopw [2] (fun i wr => ∃ k : Nat, k ≤ xs.length ∧ i = .int .i64 k ∧ ShC base wr (.slice a xs.length cap) xs ∧ Below base w wr) (fun i _ => xs.length - (intOf i).toNat)
  case atStart => exact ⟨0, Nat.zero_le _, rfl, h, Below.refl _ _⟩
  case round =>
    obtain ⟨k, hk, rfl, hs, hb⟩ := hrel
    by_cases hlt : k < xs.length
    · go_wp2
      obtain ⟨wo, rfl⟩ : ∃ wo, wo = wr := ⟨_, rfl⟩
      go_loopw [3] (fun i wr => ∃ j : Nat, j ≤ xs[k].length ∧ i = .int .i64 j ∧ ShC base wr (.slice a xs.length cap) xs ∧ Below base w wr) (fun i _ => xs[k].length - (intOf i).toNat)
      case atStart => exact ⟨0, Nat.zero_le _, rfl, hs, hb⟩
      case round =>
        obtain ⟨j, hj, rfl, hs, hb⟩ := hrel
        obtain ⟨a0, cap0, e0, -, -, hx⟩ := id hs
        simp only [Value.slice.injEq] at e0
        obtain ⟨rfl, -, -⟩ := e0
        obtain ⟨b, off, i0, d0, rfl, hb0, hsf, hc, hd, hB⟩ := hx k hlt
        obtain ⟨a1, cap1, rfl, hB1, hB2, hx1⟩ := id hB
        have hf0 := hsf.frozen (off + k * 2)
        clear hx
        by_cases hjl : j < xs[k].length
        · clear hx1
          go_wp2
          obtain ⟨wp, rfl⟩ : ∃ wp, wp = wr := ⟨_, rfl⟩
          go_loopw [4] (fun i wr => ∃ m : Nat, m ≤ xs[k][j] ∧ i = .int .i64 m ∧ ShC base wr (.slice (some ⟨b, off, none⟩) xs.length cap) xs ∧ Below base w wr) (fun i _ => xs[k][j] - (intOf i).toNat)
          case atStart => exact ⟨0, Nat.zero_le _, rfl, hs, hb⟩
          case round =>
            clear hc hd hf0 hsf hB hs hb
            obtain ⟨m, hm, rfl, hs, hb⟩ := hrel
            obtain ⟨a0, cap0, e0, -, -, hx⟩ := id hs
            simp only [Value.slice.injEq] at e0
            obtain ⟨rfl, -, -⟩ := e0
            obtain ⟨b', off', i0, d0, e1, hb0, hsf, hc, hd, hB⟩ := hx k hlt
            simp only [Option.some.injEq, Addr.mk.injEq, and_true] at e1
            obtain ⟨rfl, rfl⟩ := e1
            obtain ⟨a1, cap1, rfl, hB1, hB2, hx1⟩ := id hB
            obtain ⟨b2, off2, i2, d2, rfl, hb2, hsf2, hc2, hd2, hI⟩ := hx1 j hjl
            obtain ⟨a2, cap2, rfl, hI1, hI2, hx2⟩ := id hI
            have hf2 := hsf2.frozen (off2 + j * 2)
            clear hx hx1
            by_cases hml : m < xs[k][j]
            · obtain ⟨b3, off3, i3, rfl, hb3, hsf3, hc3⟩ := hx2 m hml
              have hf3 := hsf3.frozen (off3 + m)
              clear hx2
              go_wp2
              exact ⟨⟨m + 1, by omega, by go_num, hs.kin (Kin.setCell hc3 (.inl ⟨_, _, _, rfl, rfl⟩)), hb.setCell (p := ⟨b3, off3 + m, none⟩) hb3 _⟩, by simp [intOf]; omega⟩
            · clear hx2
              go_wp2
              exact ⟨⟨j + 1, by omega, by go_num, hs.kin (Kin.setCell hc2 (.inl ⟨_, _, _, rfl, rfl⟩)), hb.setCell (p := ⟨b2, off2 + j * 2, none⟩) hb2 _⟩, by simp [intOf]; omega⟩
        · clear hx1
          go_wp2
          exact ⟨⟨k + 1, by omega, by go_num, hs.kin (Kin.setCell hc (.inr (.inl ⟨_, _, rfl, rfl⟩))), hb.setCell (p := ⟨b, off + k * 2, none⟩) hb0 _⟩, by simp [intOf]; omega⟩
    · go_wp2
      go_end0
      exact ⟨⟨_, rfl⟩, hb⟩
end Go.Proofs.Ytkjgddcjhikdgaa
