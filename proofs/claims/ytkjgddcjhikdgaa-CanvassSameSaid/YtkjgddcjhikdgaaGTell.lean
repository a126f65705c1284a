/- Texts of one claim, put together: Spoil, LawPuts, At, LawTells. -/
import Derived.Test.YtkjgddcjhikdgaaGFoot
import Derived.Test.YtkjgddcjhikdgaaProg
import Derived.Test.YtkjgddcjhikdgaaGPut
import Derived.Test.YtkjgddcjhikdgaaGSame
import Derived.WalkSpells
import Derived.WalkLawsBesides
import Derived.Deep.CutRange
import Derived.Deep.CutBlock

/- The contract of spoil: it writes into batches of the call's own; only their shape matters. -/
namespace Go.Proofs.Ytkjgddcjhikdgaa
open Go Go.RowKit

/-- Values of one kind. -/
def Like (v u : Value) : Prop := (∃ k i j, v = .int k i ∧ u = .int k j) ∨ (∃ s t, v = .string s ∧ u = .string t) ∨ u = v
def Kin (w w' : World) : Prop := (∀ b, Soft w b → Soft w' b) ∧ ∀ b o v, w.cell? ⟨b, o, none⟩ = some v → ∃ u, w'.cell? ⟨b, o, none⟩ = some u ∧ Like v u
theorem Kin.setCell {w : World} {b o : Nat} {v u : Value} (hc : w.cell? ⟨b, o, none⟩ = some v) (hl : Like v u) : Kin w (w.setCell ⟨b, o, none⟩ u) := by
  refine ⟨fun c h => h.setCell b o u, fun c p x hx => ?_⟩
  by_cases h : (⟨b, o, none⟩ : Addr) = ⟨c, p, none⟩
  · rw [← h] at hx ⊢
    rw [hc] at hx
    cases hx
    exact ⟨u, World.cell?_setCell_same _ _ _ hc, hl⟩
  · exact ⟨x, (World.cell?_setCell_other _ _ _ _ h).trans hx, .inr (.inr rfl)⟩
def ShI (base : Nat) (w : World) (v : Value) (n : Nat) : Prop :=
  ∃ a cap, v = .slice a n cap ∧ n ≤ cap ∧ n ≤ 140737488355328 ∧ ∀ k, k < n → ∃ b off i, a = some ⟨b, off, none⟩ ∧ base ≤ b ∧ Soft w b ∧ w.cell? ⟨b, off + k, none⟩ = some (.int .i64 i)
def ShB (base : Nat) (w : World) (v : Value) (xs : List Nat) : Prop :=
  ∃ a cap, v = .slice a xs.length cap ∧ xs.length ≤ cap ∧ xs.length ≤ 140737488355328 ∧ ∀ k (h : k < xs.length), ∃ b off i d, a = some ⟨b, off, none⟩ ∧ base ≤ b ∧ Soft w b ∧
    w.cell? ⟨b, off + k * 2, none⟩ = some (.int .u8 i) ∧ w.cell? ⟨b, off + k * 2 + 1, none⟩ = some d ∧ ShI base w d xs[k]
def ShC (base : Nat) (w : World) (v : Value) (xs : List (List Nat)) : Prop :=
  ∃ a cap, v = .slice a xs.length cap ∧ xs.length ≤ cap ∧ xs.length ≤ 140737488355328 ∧ ∀ k (h : k < xs.length), ∃ b off i d, a = some ⟨b, off, none⟩ ∧ base ≤ b ∧ Soft w b ∧
    w.cell? ⟨b, off + k * 2, none⟩ = some (.string i) ∧ w.cell? ⟨b, off + k * 2 + 1, none⟩ = some d ∧ ShB base w d xs[k]
theorem Kin.int {w w' : World} (h : Kin w w') {b o : Nat} {k : IntKind} {i : Int} (hc : w.cell? ⟨b, o, none⟩ = some (.int k i)) : ∃ j, w'.cell? ⟨b, o, none⟩ = some (.int k j) := by
  obtain ⟨u, hu, h | h | h⟩ := h.2 _ _ _ hc
  · obtain ⟨k', i', j, e1, e2⟩ := h; cases e1; exact ⟨j, by rw [hu, e2]⟩
  · obtain ⟨s, t, e1, _⟩ := h; cases e1
  · exact ⟨i, by rw [hu, h]⟩
theorem Kin.str {w w' : World} (h : Kin w w') {b o : Nat} {s : ByteArray} (hc : w.cell? ⟨b, o, none⟩ = some (.string s)) : ∃ t, w'.cell? ⟨b, o, none⟩ = some (.string t) := by
  obtain ⟨u, hu, h | h | h⟩ := h.2 _ _ _ hc
  · obtain ⟨k', i', j, e1, e2⟩ := h; cases e1
  · obtain ⟨s', t, e1, e2⟩ := h; exact ⟨t, by rw [hu, e2]⟩
  · exact ⟨s, by rw [hu, h]⟩
theorem Kin.slice {w w' : World} (h : Kin w w') {b o : Nat} {a : Option Addr} {n c : Nat} (hc : w.cell? ⟨b, o, none⟩ = some (.slice a n c)) : w'.cell? ⟨b, o, none⟩ = some (.slice a n c) := by
  obtain ⟨u, hu, h | h | h⟩ := h.2 _ _ _ hc
  · obtain ⟨k', i', j, e1, e2⟩ := h; cases e1
  · obtain ⟨s', t, e1, e2⟩ := h; cases e1
  · rw [hu, h]
theorem ShI.kin {base : Nat} {w w' : World} {v : Value} {n : Nat} (hk : Kin w w') (h : ShI base w v n) : ShI base w' v n := by
  obtain ⟨a, cap, hv, h1, h2, h3⟩ := h
  refine ⟨a, cap, hv, h1, h2, fun k hk' => ?_⟩
  obtain ⟨b, off, i, k1, k2, k3, k4⟩ := h3 k hk'
  obtain ⟨j, hj⟩ := hk.int k4
  exact ⟨b, off, j, k1, k2, hk.1 b k3, hj⟩
theorem ShB.kin {base : Nat} {w w' : World} {v : Value} {xs : List Nat} (hk : Kin w w') (h : ShB base w v xs) : ShB base w' v xs := by
  obtain ⟨a, cap, hv, h1, h2, h3⟩ := h
  refine ⟨a, cap, hv, h1, h2, fun k hk' => ?_⟩
  obtain ⟨b, off, i, d, k1, k2, k3, k4, k5, k6⟩ := h3 k hk'
  obtain ⟨j, hj⟩ := hk.int k4
  obtain ⟨a', cap', rfl, _⟩ := id k6
  exact ⟨b, off, j, _, k1, k2, hk.1 b k3, hj, hk.slice k5, k6.kin hk⟩
theorem ShC.kin {base : Nat} {w w' : World} {v : Value} {xs : List (List Nat)} (hk : Kin w w') (h : ShC base w v xs) : ShC base w' v xs := by
  obtain ⟨a, cap, hv, h1, h2, h3⟩ := h
  refine ⟨a, cap, hv, h1, h2, fun k hk' => ?_⟩
  obtain ⟨b, off, i, d, k1, k2, k3, k4, k5, k6⟩ := h3 k hk'
  obtain ⟨j, hj⟩ := hk.str k4
  obtain ⟨a', cap', rfl, _⟩ := id k6
  exact ⟨b, off, j, _, k1, k2, hk.1 b k3, hj, hk.slice k5, k6.kin hk⟩
theorem ShI.of {S : Nat → Prop} {base : Nat} {w : World} {v : Value} {xs : List Int} (hS : ∀ b, S b → base ≤ b) (h : WSl S 1 (dInt .i64) w v xs) : ShI base w v xs.length := by
  obtain ⟨a, cap, rfl, h1, h2⟩ := RSl.shape h.1
  refine ⟨a, cap, rfl, h1, h2, fun k hk => ?_⟩
  obtain ⟨b, off, c, rfl, k2, k3, k4, k5⟩ := RSl.at1 h.1 k hk
  exact ⟨b, off, _, rfl, hS b k2, h.2 b off _ _ rfl (by omega), by rw [k4, k5.open.1]⟩
theorem ShB.of {S : Nat → Prop} {base : Nat} {w : World} {v : Value} {xs : List Blt} (hS : ∀ b, S b → base ≤ b) (h : WSl S 2 (wBlt S) w v xs) : ShB base w v (xs.map (·.marks.length)) := by
  obtain ⟨a, cap, rfl, h1, h2⟩ := RSl.shape h.1
  refine ⟨a, cap, by simp, by simpa using h1, by simpa using h2, fun k hk => ?_⟩
  obtain ⟨b, off, c, d, rfl, k2, k3, k4, k5, v', k6, -, -, k7⟩ := RSl.at2 h.1 k (by simpa using hk)
  simp only [List.cons.injEq, and_true] at k6
  obtain ⟨rfl, rfl⟩ := k6
  exact ⟨b, off, _, _, rfl, hS b k2, h.2 b off _ _ rfl (by rw [List.length_map] at hk; omega), k4, k5, by rw [List.getElem_map]; exact ShI.of hS k7⟩
def shape (l : List Btc) : List (List Nat) := l.map fun x => x.blts.map (·.marks.length)
theorem ShC.of {S : Nat → Prop} {base : Nat} {w : World} {v : Value} {xs : List Btc} (hS : ∀ b, S b → base ≤ b) (h : WBtcs S w v xs) : ShC base w v (shape xs) := by
  obtain ⟨a, cap, rfl, h1, h2⟩ := RSl.shape h.1
  refine ⟨a, cap, by simp [shape], by simpa [shape] using h1, by simpa [shape] using h2, fun k hk => ?_⟩
  have hk' : k < xs.length := by simpa [shape] using hk
  obtain ⟨b, off, c, d, rfl, k2, k3, k4, k5, v', k6, -, k7⟩ := RSl.at2 h.1 k hk'
  simp only [List.cons.injEq, and_true] at k6
  obtain ⟨rfl, rfl⟩ := k6
  refine ⟨b, off, _, _, rfl, hS b k2, h.2 b off _ _ rfl (by omega), k4, k5, ?_⟩
  have : (shape xs)[k] = xs[k].blts.map (·.marks.length) := by simp [shape]
  rw [this]
  exact ShB.of hS k7

set_option maxHeartbeats 1000000 in
theorem spoil (base : Nat) (v : Value) (xs : List (List Nat)) (w : World) (h : ShC base w v xs) :
    Calls Try.prog 25 #[v] w (fun e w' => (∃ u, e = .returned u) ∧ Below base w w') := by
  obtain ⟨a, cap, rfl, h1, h2, -⟩ := id h
  go_enter Try.func25, Try.ntmps25
  go_wp2
  go_loopw [2] (fun i wr => ∃ k : Nat, k ≤ xs.length ∧ i = .int .i64 k ∧ ShC base wr (.slice a xs.length cap) xs ∧ Below base w wr) (fun i _ => xs.length - (intOf i).toNat)
  case atStart => exact ⟨0, Nat.zero_le _, rfl, h, Below.refl _ _⟩
  case round =>
    obtain ⟨k, hk, rfl, hs, hb⟩ := hrel
    by_cases hlt : k < xs.length
    · go_wp2
      obtain ⟨wo, rfl⟩ : ∃ wo, wo = wr := ⟨_, rfl⟩
      go_loopw [3] (fun i wr => ∃ j : Nat, j ≤ xs[k].length ∧ i = .int .i64 j ∧ ShC base wr (.slice a xs.length cap) xs ∧ Below base w wr) (fun i _ => xs[k].length - (intOf i).toNat)
      case atStart => exact ⟨0, Nat.zero_le _, rfl, hs, hb⟩
      case round =>
        obtain ⟨j, hj, rfl, hs, hb⟩ := hrel
        obtain ⟨a0, cap0, e0, -, -, hx⟩ := id hs
        simp only [Value.slice.injEq] at e0
        obtain ⟨rfl, -, -⟩ := e0
        obtain ⟨b, off, i0, d0, rfl, hb0, hsf, hc, hd, hB⟩ := hx k hlt
        obtain ⟨a1, cap1, rfl, hB1, hB2, hx1⟩ := id hB
        have hf0 := hsf.frozen (off + k * 2)
        clear hx
        by_cases hjl : j < xs[k].length
        · clear hx1
          go_wp2
          obtain ⟨wp, rfl⟩ : ∃ wp, wp = wr := ⟨_, rfl⟩
          go_loopw [4] (fun i wr => ∃ m : Nat, m ≤ xs[k][j] ∧ i = .int .i64 m ∧ ShC base wr (.slice (some ⟨b, off, none⟩) xs.length cap) xs ∧ Below base w wr) (fun i _ => xs[k][j] - (intOf i).toNat)
          case atStart => exact ⟨0, Nat.zero_le _, rfl, hs, hb⟩
          case round =>
            clear hc hd hf0 hsf hB hs hb
            obtain ⟨m, hm, rfl, hs, hb⟩ := hrel
            obtain ⟨a0, cap0, e0, -, -, hx⟩ := id hs
            simp only [Value.slice.injEq] at e0
            obtain ⟨rfl, -, -⟩ := e0
            obtain ⟨b', off', i0, d0, e1, hb0, hsf, hc, hd, hB⟩ := hx k hlt
            simp only [Option.some.injEq, Addr.mk.injEq, and_true] at e1
            obtain ⟨rfl, rfl⟩ := e1
            obtain ⟨a1, cap1, rfl, hB1, hB2, hx1⟩ := id hB
            obtain ⟨b2, off2, i2, d2, rfl, hb2, hsf2, hc2, hd2, hI⟩ := hx1 j hjl
            obtain ⟨a2, cap2, rfl, hI1, hI2, hx2⟩ := id hI
            have hf2 := hsf2.frozen (off2 + j * 2)
            clear hx hx1
            by_cases hml : m < xs[k][j]
            · obtain ⟨b3, off3, i3, rfl, hb3, hsf3, hc3⟩ := hx2 m hml
              have hf3 := hsf3.frozen (off3 + m)
              clear hx2
              go_wp2
              exact ⟨⟨m + 1, by omega, by go_num, hs.kin (Kin.setCell hc3 (.inl ⟨_, _, _, rfl, rfl⟩)), hb.setCell (p := ⟨b3, off3 + m, none⟩) hb3 _⟩, by simp [intOf]; omega⟩
            · clear hx2
              go_wp2
              exact ⟨⟨j + 1, by omega, by go_num, hs.kin (Kin.setCell hc2 (.inl ⟨_, _, _, rfl, rfl⟩)), hb.setCell (p := ⟨b2, off2 + j * 2, none⟩) hb2 _⟩, by simp [intOf]; omega⟩
        · clear hx1
          go_wp2
          exact ⟨⟨k + 1, by omega, by go_num, hs.kin (Kin.setCell hc (.inr (.inl ⟨_, _, rfl, rfl⟩))), hb.setCell (p := ⟨b, off + k * 2, none⟩) hb0 _⟩, by simp [intOf]; omega⟩
    · go_wp2
      go_end0
      exact ⟨⟨_, rfl⟩, hb⟩
end Go.Proofs.Ytkjgddcjhikdgaa

/- What the law RecordPuts answers. -/
namespace Go.Proofs.Ytkjgddcjhikdgaa
open Go Go.RowKit

set_option maxHeartbeats 1000000 in
theorem puts_great (S : Nat → Prop) (v u : Value) (l : List Btc) (c kind : Int) (nm : ByteArray) (b : Blt) (w : World) (h : RBtcs S w v l) (hu : VBlt S w u b) (hg : (great l || greatBlt b || decide (1000 < nm.size)) = true) :
    Calls Try.prog 3 #[v, .int .i64 c, .int .u8 kind, .string nm, u] w fun e w' => e = .returned (.bool true) ∧ Below w.heap.size w w' := by
  obtain ⟨c0, d0, rfl, hB⟩ := hu
  obtain ⟨a0, cap0, rfl, rfl, -, -, -, -⟩ := hB.open
  have hb0 : Below w.heap.size w (w.alloc (.cells #[.int .u8 b.kind, .slice a0 b.marks.length cap0] 25)) := (Below.refl _ _).alloc (Nat.le_refl _) _
  have hbx := box_new w (.cells #[.int .u8 b.kind, .slice a0 b.marks.length cap0] 25)
  have hG := great26 S v l _ (h.same (.of_below hb0))
  have hG8 : ∀ W, Below w.heap.size w W → Calls Try.prog 19 #[.agg #[.int .u8 b.kind, .slice a0 b.marks.length cap0]] W fun e w' => e = .returned (.bool (greatBlt b)) ∧ Below W.heap.size W w' :=
    fun W hW => great08 S _ b W ⟨_, _, rfl, dBlt.stable S _ _ _ _ (.of_below hW) hB⟩
  clear h hB
  cases hg1 : great l
  · rw [hg1] at hG hg
    cases hg2 : greatBlt b
    · rw [hg2] at hG8 hg
      have hsz : ((nm.size : Int) > 1000) := by simp at hg; omega
      have HG := Lib.hid hG
      have HG8 := Lib.hid hG8
      clear hG hG8 hg hg1 hg2
      go_enter Try.func3, Try.ntmps3
      go_wp2_with (first | (go_at_call 18; refine HG.out.mono ?_; rintro e w1 ⟨rfl, hb1⟩; have hq1 : Below w.heap.size w w1 := hb0.trans (hb1.mono (by simp)); obtain ⟨gx1, hcx1, hfx1⟩ := own_box hb1 (by simp) hbx) | (go_at_call 19; refine (HG8.out _ hq1).mono ?_; rintro e w2 ⟨rfl, hb2⟩))
      go_ret
      exact ⟨rfl, hq1.trans (hb2.mono hq1.size)⟩
    · rw [hg2] at hG8
      have HG := Lib.hid hG
      have HG8 := Lib.hid hG8
      clear hG hG8 hg hg1 hg2
      go_enter Try.func3, Try.ntmps3
      go_wp2_with (first | (go_at_call 18; refine HG.out.mono ?_; rintro e w1 ⟨rfl, hb1⟩; have hq1 : Below w.heap.size w w1 := hb0.trans (hb1.mono (by simp)); obtain ⟨gx1, hcx1, hfx1⟩ := own_box hb1 (by simp) hbx) | (go_at_call 19; refine (HG8.out _ hq1).mono ?_; rintro e w2 ⟨rfl, hb2⟩))
      go_ret
      exact ⟨rfl, hq1.trans (hb2.mono hq1.size)⟩
  · rw [hg1] at hG
    have HG := Lib.hid hG
    clear hG hG8 hg hg1
    go_enter Try.func3, Try.ntmps3
    go_wp2_with (go_at_call 18; refine HG.out.mono ?_; rintro e w1 ⟨rfl, hb1⟩)
    go_ret
    exact ⟨rfl, hb0.trans (hb1.mono (by simp))⟩
/-- Behind the copies: own batches and an own ballot, the ballot in a block of its own. -/
def PutsR (w : World) (l : List Btc) (b : Blt) (o : Obj) (s11 s12 : Value) (wc : World) : Prop :=
  ∃ g4 a4 c4, s12 = .pointer (some ⟨g4, 0, none⟩) ∧ wc.heap[g4]? = some (.cells #[.int .u8 b.kind, .slice a4 b.marks.length c4] 25 (0, 0)) ∧ RBtcs Any wc s11 l ∧
    dBlt Any wc [.int .u8 b.kind, .slice a4 b.marks.length c4] b ∧ Below w.heap.size w wc ∧ wc.heap[w.heap.size]? = some o
theorem sameT (S T : Nat → Prop) (u v : Value) (xs : List Btc) (w : World) (hx : RBtcs S w u xs) (hy : RBtcs T w v xs) :
    Calls Try.prog 24 #[u, v] w fun e w' => e = .returned (.bool true) ∧ Below w.heap.size w w' := by
  have := same26 S T u v xs xs w hx hy
  rwa [eqL_refl eqBtc_refl] at this
theorem same08T (S T : Nat → Prop) (u v : Value) (x : Blt) (w : World) (hx : VBlt S w u x) (hy : VBlt T w v x) :
    Calls Try.prog 26 #[u, v] w fun e w' => e = .returned (.bool true) ∧ Below w.heap.size w w' := by
  have := same08 S T u v x x w hx hy
  rwa [eqBlt_refl] at this
theorem PutsR.stored {w w3 w4 : World} {l : List Btc} {b : Blt} {o : Obj} {v3 : Value} {g lo hi lo4 hi4 : Nat} {a4 : Option Addr} {c4 : Nat} {cs : Array Value} (hR : RBtcs (Span lo hi) w3 v3 l) (h34 : Below w3.heap.size w3 w4)
    (hB : dBlt (Span lo4 hi4) w4 [.int .u8 b.kind, .slice a4 b.marks.length c4] b) (hg : w4.heap[g]? = some (.cells cs 25 (0, 0))) (hcs : cs = #[.int .u8 0, .slice none 0 0]) (h1 : ¬ Span lo hi g) (h4 : ¬ Span lo4 hi4 g)
    (hw : Below w.heap.size w w4) (hgw : w.heap.size < g) (ho : w4.heap[w.heap.size]? = some o) :
    PutsR w l b o v3 (.pointer (some ⟨g, 0, none⟩)) ((w4.setCell ⟨g, 0, none⟩ (.int .u8 b.kind)).setCell ⟨g, 1, none⟩ (.slice a4 b.marks.length c4)) := by
  subst hcs
  refine ⟨g, a4, c4, rfl, ?_, ?_, ?_, (hw.setCell (p := ⟨g, 0, none⟩) (Nat.le_of_lt hgw) _).setCell (p := ⟨g, 1, none⟩) (Nat.le_of_lt hgw) _, ?_⟩
  · have := heap_setCell_at (o := 1) (heap_setCell_at (o := 0) hg (.int .u8 b.kind)) (.slice a4 b.marks.length c4)
    simpa using this
  · exact (hR.same (((Same.of_below h34).setCell (p := ⟨g, 0, none⟩) h1 _).setCell (p := ⟨g, 1, none⟩) h1 _)).mono (fun _ _ => trivial)
  · exact (dBlt.stable _ _ _ _ _ (((Same.refl _ _).setCell (p := ⟨g, 0, none⟩) h4 _).setCell (p := ⟨g, 1, none⟩) h4 _) hB).mono (fun _ _ => trivial)
  · exact (setCell2_off (by omega) _ _).trans ho
theorem PutsR.laid {w w3 w4 : World} {l : List Btc} {b : Blt} {o : Obj} {v3 : Value} {a4 : Option Addr} {c4 : Nat} {T T' : Nat → Prop} (hR : RBtcs T w3 v3 l) (h34 : Below w3.heap.size w3 w4)
    (hB : dBlt T' w4 [.int .u8 b.kind, .slice a4 b.marks.length c4] b) (hw : Below w.heap.size w w4) (ho : w4.heap[w.heap.size]? = some o) :
    PutsR w l b o v3 (.pointer (some ⟨w4.heap.size, 0, none⟩)) (w4.alloc (.cells #[.int .u8 b.kind, .slice a4 b.marks.length c4] 25)) := by
  have h5 : Below w4.heap.size w4 (w4.alloc (.cells #[.int .u8 b.kind, .slice a4 b.marks.length c4] 25)) := (Below.refl _ _).alloc (Nat.le_refl _) _
  exact ⟨_, a4, c4, rfl, box_new _ _, (hR.same (.of_below (h34.trans (h5.mono h34.size)))).mono (fun _ _ => trivial), (dBlt.stable _ _ _ _ _ (.of_below h5) hB).mono (fun _ _ => trivial), hw.alloc hw.size _, box_old _ ho⟩
set_option maxHeartbeats 2000000 in
set_option maxRecDepth 100000 in
theorem puts_small (S : Nat → Prop) (v u : Value) (l : List Btc) (c kind : Int) (nm : ByteArray) (b : Blt) (w : World) (h : RBtcs S w v l) (hu : VBlt S w u b) (hg1 : great l = false) (hg2 : greatBlt b = false) (hg3 : nm.size ≤ 1000) :
    Calls Try.prog 3 #[v, .int .i64 c, .int .u8 kind, .string nm, u] w fun e w' => e = .returned (.bool true) ∧ Below w.heap.size w w' := by
  obtain ⟨c0, d0, rfl, hB⟩ := hu
  obtain ⟨a0, cap0, rfl, rfl, -, -, -, -⟩ := hB.open
  have hsm := small_of hg1
  have hmk : b.marks.length ≤ 1000000 := by simp [greatBlt] at hg2; omega
  have hb0 : Below w.heap.size w (w.alloc (.cells #[.int .u8 b.kind, .slice a0 b.marks.length cap0] 25)) := (Below.refl _ _).alloc (Nat.le_refl _) _
  have hbx := box_new w (.cells #[.int .u8 b.kind, .slice a0 b.marks.length cap0] 25)
  have hG := great26 S v l _ (h.same (.of_below hb0))
  rw [hg1] at hG
  have hG8 : ∀ W, Below w.heap.size w W → Calls Try.prog 19 #[.agg #[.int .u8 b.kind, .slice a0 b.marks.length cap0]] W fun e w' => e = .returned (.bool false) ∧ Below W.heap.size W w' :=
    fun W hW => by rw [← hg2]; exact great08 S _ b W ⟨_, _, rfl, dBlt.stable S _ _ _ _ (.of_below hW) hB⟩
  have hT : ∀ W, Below w.heap.size w W → Calls Try.prog 20 #[v] W (fun e w' => ∃ v ys, e = .returned v ∧ Twinned W.heap.size w' v ys ∧ ys.map (·.x) = l ∧ Below W.heap.size W w') :=
    fun W hW => twinRef S v l W (h.same (.of_below hW)) hsm
  have hCp : ∀ W, Below w.heap.size w W → Calls Try.prog 21 #[.agg #[.int .u8 b.kind, .slice a0 b.marks.length cap0]] W fun e w' => ∃ d, e = .returned (.agg #[.int .u8 b.kind, d]) ∧ wBlt (Span W.heap.size w'.heap.size) w' [.int .u8 b.kind, d] b ∧ Below W.heap.size W w' :=
    fun W hW => copyRef2 S _ b W ⟨_, _, rfl, dBlt.stable S _ _ _ _ (.of_below hW) hB⟩ (by omega)
  have HG := Lib.hid hG
  have HG8 := Lib.hid hG8
  have HT := Lib.hid hT
  have HCp := Lib.hid hCp
  have H := Lib.hid h
  have HB := Lib.hid hB
  have Hsm := Lib.hid hsm
  clear hG hG8 hT hCp h hB hsm hg1 hg2
  go_enter Try.func3, Try.ntmps3
  go_upto_region 3 with (first | (go_at_call 18; refine HG.out.mono ?_; rintro e w1 ⟨rfl, hb1⟩; have hq1 : Below w.heap.size w w1 := hb0.trans (hb1.mono (by simp)); obtain ⟨gx1, hcx1, hfx1⟩ := own_box hb1 (by simp) hbx) | (go_at_call 19; refine (HG8.out _ hq1).mono ?_; rintro e w2 ⟨rfl, hb2⟩; have hq2 : Below w.heap.size w w2 := hq1.trans (hb2.mono hq1.size); obtain ⟨gx2, hcx2, hfx2⟩ := own_box hb2 (size_of_box gx1) gx1))
  have hs2 := hq2.size
  have hltw2 := size_of_box gx2
  go_cut [11, 12] from 29 to 71 (fun s11 s12 wc => PutsR w l b (.cells #[.int .u8 b.kind, .slice a0 b.marks.length cap0] 25 (0, 0)) s11 s12 wc)
  case first =>
    go_region_law (first | (go_simp; go_at_call 20; refine (HT.out _ (by first | exact hq2.drew | exact hq2.drew.alloc hs2 _ | exact (hq2.alloc hs2 _).drew)).mono ?_; rintro e w3 ⟨v3, ys, rfl, htw, hys, hb3⟩; have hq3 : Below w.heap.size w w3 := (by first | exact (hq2.drew).trans (hb3.mono hs2) | exact (hq2.drew.alloc hs2 _).trans (hb3.mono (by simp; omega)) | exact ((hq2.alloc hs2 _).drew).trans (hb3.mono (by simp; omega))); have hs3 := hq3.size; have hbx3 := own_box (g := w.heap.size) (cs := #[.int .u8 b.kind, .slice a0 b.marks.length cap0]) (e := 25) hb3 (by simp; omega) (by first | exact gx2 | exact box_old _ gx2); obtain ⟨gx3, hcx3, hfx3⟩ := hbx3; have hltw3 : w.heap.size < w3.heap.size := (by have h1 := size_of_box gx2; have h2 := hb3.size; simp at h2; omega); try (have hbyB := own_box (g := w2.heap.size) (cs := #[.int .u8 0, .slice none 0 0]) (e := 25) hb3 (by simp) (by first | exact box_new w2 _ | exact box_new w2.drew _); obtain ⟨gyB, hcyB, hfyB⟩ := hbyB)) | (go_simp; go_at_call 21; refine (HCp.out _ (by first | exact hq3 | exact hq3.alloc hs3 _)).mono ?_; rintro e w4 ⟨d4, rfl, hv4, hb4⟩; obtain ⟨a4, c4, -, rfl, -⟩ := hv4.toD.open; have hlt4 := hb4.size; (try (have hbyA := own_box (g := w3.heap.size) (cs := #[.int .u8 0, .slice none 0 0]) (e := 25) hb4 (by simp) (by first | exact box_new w3 _ | exact box_new w3.drew _); obtain ⟨gyA, hcyA, hfyA⟩ := hbyA)); (try (have hbyC := own_box (g := w2.heap.size) (cs := #[.int .u8 0, .slice none 0 0]) (e := 25) hb4 (by have := size_of_box gyB; first | exact this | omega | (simp; omega)) (by first | exact gyB | exact box_old _ gyB); obtain ⟨gyC, hcyC, hfyC⟩ := hbyC))))
    all_goals
      go_wp2_with fail
      go_meet
      have HR := (Twinned.wsl htw (by have := congrArg List.length hys; have := Hsm.out.1; simp at *; omega)).toR
      rw [hys] at HR
      have hsx := size_of_box gx3
      have hB4 := hv4.toD
      first
      | exact PutsR.stored HR ((below_new _ _).trans (hb4.mono (by simp))) hB4 gyA rfl (not_span_hi (Nat.le_refl _)) (not_span_lo (by simp)) (hq3.trans ((below_new _ _).trans (hb4.mono (by simp)) |>.mono hq3.size)) (by omega) (keep_box ((below_new _ _).trans (hb4.mono (by simp))) gx3)
      | exact PutsR.stored HR hb4 hB4 gyC rfl (not_span_lo (by simp)) (not_span_lo (size_of_box gyB)) (hq3.trans (hb4.mono hq3.size)) (by omega) (keep_box hb4 gx3)
      | exact PutsR.laid HR hb4 hB4 (hq3.trans (hb4.mono hq3.size)) (keep_box hb4 gx3)
  case rest =>
    obtain ⟨g4, a4, c4, rfl, hg4, hR, hB4, hbc, hxw⟩ := hcut
    obtain ⟨-, hcg4, hfg4⟩ := own_box (Below.refl _ _) (size_of_box hg4) hg4
    obtain ⟨-, hcxw, hfxw⟩ := own_box (Below.refl _ _) (size_of_box hxw) hxw
    have hlg4 := size_of_box hg4
    have hlxw := size_of_box hxw
    obtain ⟨ao, co, rfl, -, -⟩ := RSl.shape hR
    have Hg4 := Lib.hid hg4
    have Hxw := Lib.hid hxw
    have HR := Lib.hid hR
    have HB4 := Lib.hid hB4
    have Hbc := Lib.hid hbc
    clear hg4 hxw hR hB4 hbc HT HCp HG HG8
    have hS0 : ∀ W, Below w.heap.size w W → VBlt S W (.agg #[.int .u8 b.kind, .slice a0 b.marks.length cap0]) b := fun W hW => ⟨_, _, rfl, dBlt.stable S _ _ _ _ (.of_below hW) HB.out⟩
    have HS0 := Lib.hid hS0
    clear hS0
    go_wp2_with (first
      | (go_at_call 22; refine (put Any _ _ l c kind nm b _ HR.out ⟨_, _, rfl, HB4.out⟩ (by omega) Hsm.out hmk).mono ?_; rintro e w5 ⟨v5, rfl, hv5, hb5⟩; have hl5 := hb5.size; obtain ⟨ax5, cx5, hx5, -, -⟩ := RSl.shape hv5.1; have Hv5 := Lib.hid hv5; have Hx5 := Lib.hid hx5; clear hv5 hx5; obtain ⟨gz5, hcz5, hfz5⟩ := own_box hb5 hlxw Hxw.out; obtain ⟨gg5, hcg5, hfg5⟩ := own_box hb5 hlg4 Hg4.out)
      | (go_at_call 23; have hq5 : Below w.heap.size w w5 := Hbc.out.trans (hb5.mono Hbc.out.size); refine (refPut S _ _ l c kind nm b _ (H.out.same (.of_below hq5)) (HS0.out _ hq5) (by omega) Hsm.out hmk).mono ?_; rintro e w6 ⟨v6, rfl, hv6, hb6⟩; have Hv6 := Lib.hid hv6; have hl6 := hb6.size; obtain ⟨gz6, hcz6, hfz6⟩ := own_box hb6 (by omega) gz5; obtain ⟨gg6, hcg6, hfg6⟩ := own_box hb6 (by omega) gg5; clear hv6)
      | (go_at_call_of 24 (v5); refine (sameT _ _ _ _ _ _ (Hv5.out.same (.of_below hb6)).toR Hv6.out.toR).mono ?_; rintro e w7 ⟨rfl, hb7⟩; have hl7 := hb7.size; obtain ⟨gz7, hcz7, hfz7⟩ := own_box hb7 (by omega) gz6; obtain ⟨gg7, hcg7, hfg7⟩ := own_box hb7 (by omega) gg6)
      | (go_at_call 25; have hw7 := (Hv5.out.same (.of_below hb6)).same (.of_below hb7); have h57 := ((hb6.mono hl5).trans (hb7.mono (by omega)) : Below wc.heap.size w5 w7); refine (spoil wc.heap.size v5 _ w7 (ShC.of (fun _ hh => hh) hw7)).mono ?_; rintro e w8 ⟨⟨u8, rfl⟩, hb8⟩; have hq8 : Below wc.heap.size wc w8 := (hb5.trans h57).trans hb8; have hl8 := hq8.size; obtain ⟨gz8, hcz8, hfz8⟩ := own_box hq8 hlxw Hxw.out; obtain ⟨gg8, hcg8, hfg8⟩ := own_box hq8 hlg4 Hg4.out; have hr8 : Below w.heap.size w w8 := Hbc.out.trans (hq8.mono Hbc.out.size); clear hw7 h57)
      | (go_at_call 24; refine (sameT _ _ _ _ _ _ (HR.out.same (.of_below hq8)) (H.out.same (.of_below hr8))).mono ?_; rintro e w9 ⟨rfl, hb9⟩; have hl9 := hb9.size; obtain ⟨gz9, hcz9, hfz9⟩ := own_box hb9 (by omega) gz8; obtain ⟨gg9, hcg9, hfg9⟩ := own_box hb9 (by omega) gg8)
      | (go_at_call 26; have hq9 : Below wc.heap.size wc w9 := hq8.trans (hb9.mono hl8); refine (same08T _ _ _ _ _ _ ⟨_, _, rfl, dBlt.stable _ _ _ _ _ (.of_below hq9) HB4.out⟩ (HS0.out _ (hr8.trans (hb9.mono hr8.size)))).mono ?_; rintro e w10 ⟨rfl, hb10⟩))
    go_ret
    exact ⟨rfl, (hr8.trans (hb9.mono hr8.size)).trans (hb10.mono (by have := hr8.size; omega))⟩
end Go.Proofs.Ytkjgddcjhikdgaa

/- The contracts of record.At and of the reference's At. -/
namespace Go.Proofs.Ytkjgddcjhikdgaa
open Go Go.RowKit Go.Shelf

/-- The ballot at a place, and the answer. -/
def atAt (l : List Btc) (b k : Int) : Option Blt := if 0 ≤ b ∧ 0 ≤ k then (l[b.toNat]?).bind (fun x => x.blts[k.toNat]?) else none
def answAt (l : List Btc) (c kind b k : Int) : Int := if recCheck l c kind = 0 then (match atAt l b k with | some _ => 0 | none => 6) else recCheck l c kind
def bltAt (l : List Btc) (c kind b k : Int) : Blt := if recCheck l c kind = 0 then (atAt l b k).getD ⟨0, []⟩ else ⟨0, []⟩
theorem atAt_none {l : List Btc} {b k : Int} (h : ∀ n m : Nat, b = n → k = m → ∀ (h : n < l.length), ¬ m < l[n].blts.length) : (match atAt l b k with | some _ => (0 : Int) | none => 6) = 6 := by
  have : atAt l b k = none := by
    unfold atAt
    split
    · rename_i hh
      rcases Nat.lt_or_ge b.toNat l.length with h1 | h1
      · have := h b.toNat k.toNat (by omega) (by omega) h1
        simp [List.getElem?_eq_getElem h1]
        omega
      · simp [List.getElem?_eq_none h1]
    · rfl
  rw [this]
theorem atAt_some {l : List Btc} {n m : Nat} (h : n < l.length) (h' : m < l[n].blts.length) : (match atAt l n m with | some _ => (0 : Int) | none => 6) = 0 ∧ (atAt l n m).getD ⟨0, []⟩ = l[n].blts[m] := by
  have : atAt l n m = some l[n].blts[m] := by simp [atAt, h, h']
  rw [this]
  exact ⟨rfl, rfl⟩
def AtGives (l : List Btc) (c kind b k : Int) (w : World) (e : Ending) (w' : World) : Prop :=
  ∃ v, e = .returned (.tuple #[v, .int .i64 (answAt l c kind b k)]) ∧ WBlt (From w.heap.size) w' v (bltAt l c kind b k) ∧ Below w.heap.size w w'
theorem bltAt_zero {l : List Btc} {c kind b k : Int} (h : answAt l c kind b k ≠ 0) : bltAt l c kind b k = ⟨0, []⟩ := by
  unfold answAt at h
  unfold bltAt
  split
  · rename_i hc
    rw [if_pos hc] at h
    cases ho : atAt l b k
    · rfl
    · rw [ho] at h; exact absurd rfl h
  · rfl
theorem AtGives.none {l : List Btc} {c kind b k : Int} {w w' : World} {i : Int} (h : answAt l c kind b k = i ∧ i ≠ 0) (hb : Below w.heap.size w w') :
    AtGives l c kind b k w (.returned (.tuple #[.agg #[.int .u8 0, .slice none 0 0], .int .i64 i])) w' :=
  ⟨_, by rw [h.1], by rw [bltAt_zero (by rw [h.1]; exact h.2)]; exact ⟨_, _, rfl, _, rfl, by simp, by simp, WSl.nil⟩, hb⟩
theorem AtGives.some {l : List Btc} {c kind b k : Int} {w w' : World} {v : Value} {x : Blt} {base : Nat} (hi : answAt l c kind b k = 0) (hl : bltAt l c kind b k = x) (hv : WBlt (From base) w' v x) (hbase : w.heap.size ≤ base) (hb : Below w.heap.size w w') :
    AtGives l c kind b k w (.returned (.tuple #[v, .int .i64 0])) w' := by
  refine ⟨v, by rw [hi], ?_, hb⟩
  rw [hl]
  obtain ⟨c0, d0, hv, hx⟩ := hv
  exact ⟨c0, d0, hv, hx.mono fun b hb => by simp only [From] at hb ⊢; omega⟩

set_option maxHeartbeats 1000000 in
theorem recordAt (S : Nat → Prop) (v : Value) (l : List Btc) (c kind bt k : Int) (w : World) (h : RBtcs S w v l) (hsm : Small l) (hbt : -9223372036854775808 ≤ bt ∧ bt ≤ 9223372036854775807) (hkk : -9223372036854775808 ≤ k ∧ k ≤ 9223372036854775807) :
    Calls Try.prog 36 #[v, .int .i64 c, .int .u8 kind, .int .i64 bt, .int .i64 k] w (AtGives l c kind bt k w) := by
  obtain ⟨a, cap, rfl, h1, h2⟩ := RSl.shape h
  have hb0 : Below w.heap.size w (w.alloc (.cells #[.int .u8 0, .slice none 0 0] 25)) := (Below.refl _ _).alloc (Nat.le_refl _) _
  have hbx := box_new w (.cells #[.int .u8 0, .slice none 0 0] 25)
  have hC := recordCheck S _ l c kind _ (h.same (.of_below hb0))
  by_cases hc : recCheck l c kind = 0
  case neg =>
    have hc1 : (recCheck l c kind != 0) = true := by simpa using hc
    have he : answAt l c kind bt k = recCheck l c kind ∧ recCheck l c kind ≠ 0 := ⟨by rw [answAt, if_neg hc], hc⟩
    generalize recCheck l c kind = i at *
    have HC := Lib.hid hC; have HE := Lib.hid he; clear hC hc he
    go_enter Try.func36, Try.ntmps36
    go_wp2_with (go_at_call 39; refine HC.out.mono ?_; rintro e w1 ⟨rfl, hb1⟩; obtain ⟨gx1, hcx1, hfx1⟩ := own_box hb1 (by simp) hbx; have hl1 := hb1.size; have hlt1 := size_of_box gx1)
    exact bodyPost_ret (v := .tuple #[.agg #[.int .u8 0, .slice none 0 0], .int .i64 i]) (by simp [results, Try.results36, go_sem, hcx1]) rfl (AtGives.none HE.out ((hb0.trans (hb1.mono (by simp))).setCell (p := ⟨w.heap.size, 0, none⟩) (Nat.le_refl _) _ |>.setCell (p := ⟨w.heap.size, 1, none⟩) (Nat.le_refl _) _))
  rw [hc] at hC
  have hO : ∀ e, (∀ n m : Nat, bt = n → k = m → ∀ (h : n < l.length), ¬ m < l[n].blts.length) → e = 6 → answAt l c kind bt k = e ∧ (e : Int) ≠ 0 := fun e h he => ⟨by rw [answAt, if_pos hc, he]; exact atAt_none h, by omega⟩
  have hS : ∀ n m : Nat, bt = n → k = m → ∀ (h : n < l.length) (h' : m < l[n].blts.length), answAt l c kind bt k = 0 ∧ bltAt l c kind bt k = l[n].blts[m] := fun n m h1 h2 h h' => by
    subst h1 h2
    rw [answAt, bltAt, if_pos hc, if_pos hc]
    exact atAt_some h h'
  have HC := Lib.hid hC; have HO := Lib.hid hO; have HS := Lib.hid hS; clear hC hc hO hS
  by_cases b1 : bt < 0
  · have HE := Lib.hid (HO.out 6 (fun n m hn => by omega) rfl)
    go_enter Try.func36, Try.ntmps36
    go_wp2_with (go_at_call 39; refine HC.out.mono ?_; rintro e w1 ⟨rfl, hb1⟩; obtain ⟨gx1, hcx1, hfx1⟩ := own_box hb1 (by simp) hbx; have hl1 := hb1.size; have hlt1 := size_of_box gx1)
    exact bodyPost_ret (v := .tuple #[.agg #[.int .u8 0, .slice none 0 0], .int .i64 6]) (by simp [results, Try.results36, go_sem, hcx1]) rfl (AtGives.none HE.out ((hb0.trans (hb1.mono (by simp))).setCell (p := ⟨w.heap.size, 0, none⟩) (Nat.le_refl _) _ |>.setCell (p := ⟨w.heap.size, 1, none⟩) (Nat.le_refl _) _))
  by_cases b2 : (l.length : Int) ≤ bt
  · have HE := Lib.hid (HO.out 6 (fun n m hn hm hh => by omega) rfl)
    go_enter Try.func36, Try.ntmps36
    go_wp2_with (go_at_call 39; refine HC.out.mono ?_; rintro e w1 ⟨rfl, hb1⟩; obtain ⟨gx1, hcx1, hfx1⟩ := own_box hb1 (by simp) hbx; have hl1 := hb1.size; have hlt1 := size_of_box gx1)
    exact bodyPost_ret (v := .tuple #[.agg #[.int .u8 0, .slice none 0 0], .int .i64 6]) (by simp [results, Try.results36, go_sem, hcx1]) rfl (AtGives.none HE.out ((hb0.trans (hb1.mono (by simp))).setCell (p := ⟨w.heap.size, 0, none⟩) (Nat.le_refl _) _ |>.setCell (p := ⟨w.heap.size, 1, none⟩) (Nat.le_refl _) _))
  obtain ⟨n, rfl⟩ : ∃ n : Nat, bt = n := ⟨bt.toNat, by omega⟩
  have hn : n < l.length := by omega
  obtain ⟨b, off, c0, d0, rfl, -, hbw, hc0, hd0, hx⟩ := RSl.at2 h n hn
  obtain ⟨a', cap', rfl, rfl, hl1, -, hI⟩ := hx.open
  by_cases b3 : k < 0
  · have HE := Lib.hid (HO.out 6 (fun n m hn hm hh => by omega) rfl)
    go_enter Try.func36, Try.ntmps36
    go_wp2_with (go_at_call 39; refine HC.out.mono ?_; rintro e w1 ⟨rfl, hb1⟩; obtain ⟨gx1, hcx1, hfx1⟩ := own_box hb1 (by simp) hbx; have hl1 := hb1.size; have hlt1 := size_of_box gx1)
    exact bodyPost_ret (v := .tuple #[.agg #[.int .u8 0, .slice none 0 0], .int .i64 6]) (by simp [results, Try.results36, go_sem, hcx1]) rfl (AtGives.none HE.out ((hb0.trans (hb1.mono (by simp))).setCell (p := ⟨w.heap.size, 0, none⟩) (Nat.le_refl _) _ |>.setCell (p := ⟨w.heap.size, 1, none⟩) (Nat.le_refl _) _))
  have hlen : l[n].blts.length ≤ 1000000 := (hsm.2 _ (List.getElem_mem hn)).1
  by_cases b4 : (l[n].blts.length : Int) ≤ k
  · have HE := Lib.hid (HO.out 6 (fun n' m hn' hm hh => by (obtain rfl : n' = n := (by omega)); omega) rfl)
    go_enter Try.func36, Try.ntmps36
    go_wp2_with (first | (go_at_call 39; refine HC.out.mono ?_; rintro e w1 ⟨rfl, hb1⟩; obtain ⟨gx1, hcx1, hfx1⟩ := own_box hb1 (by simp) hbx; have hl1 := hb1.size; have hlt1 := size_of_box gx1; have hd1 := (Same.of_below (S := Any) (hb0.trans (hb1.mono (by simp)))).cell trivial hd0))
    exact bodyPost_ret (v := .tuple #[.agg #[.int .u8 0, .slice none 0 0], .int .i64 6]) (by simp [results, Try.results36, go_sem, hcx1]) rfl (AtGives.none HE.out ((hb0.trans (hb1.mono (by simp))).setCell (p := ⟨w.heap.size, 0, none⟩) (Nat.le_refl _) _ |>.setCell (p := ⟨w.heap.size, 1, none⟩) (Nat.le_refl _) _))
  obtain ⟨m, rfl⟩ : ∃ m : Nat, k = m := ⟨k.toNat, by omega⟩
  have hm : m < l[n].blts.length := by omega
  obtain ⟨b2, off2, c2, d2, rfl, -, hbw2, hc2, hd2, hy⟩ := RSl.at2 hI m hm
  obtain ⟨hE1, hE2⟩ := HS.out n m rfl rfl hn hm
  have hmk : l[n].blts[m].marks.length ≤ 1000000 := (hsm.2 _ (List.getElem_mem hn)).2 _ (List.getElem_mem hm)
  have hCp : ∀ W, Below w.heap.size w W → Calls Try.prog 73 #[.agg #[c2, d2]] W fun e w' => ∃ d, e = .returned (.agg #[.int .u8 l[n].blts[m].kind, d]) ∧ wBlt (Span W.heap.size w'.heap.size) w' [.int .u8 l[n].blts[m].kind, d] l[n].blts[m] ∧ Below W.heap.size W w' :=
    fun W hW => copied2 S _ l[n].blts[m] W ⟨_, _, rfl, dBlt.stable S _ _ _ _ (.of_below hW) hy⟩ (by omega)
  obtain ⟨a2, cap2, rfl, rfl, -⟩ := hy.open
  have HCp := Lib.hid hCp; have HE1 := Lib.hid hE1; have HE2 := Lib.hid hE2; clear hCp hE1 hE2 hy hx hI
  go_enter Try.func36, Try.ntmps36
  go_wp2_with (first
    | (go_at_call 39; refine HC.out.mono ?_; rintro e w1 ⟨rfl, hb1⟩; obtain ⟨gx1, hcx1, hfx1⟩ := own_box hb1 (by simp) hbx; have hl1 := hb1.size; have hlt1 := size_of_box gx1; have hq1 : Below w.heap.size w w1 := hb0.trans (hb1.mono (by simp)); have hc1 := (Same.of_below (S := Any) hq1).cell trivial hc0; have hd1 := (Same.of_below (S := Any) hq1).cell trivial hd0; have hc3 := (Same.of_below (S := Any) hq1).cell trivial hc2; have hd3 := (Same.of_below (S := Any) hq1).cell trivial hd2)
    | (go_at_call 73; refine (HCp.out _ hq1).mono ?_; rintro e w2 ⟨d3, rfl, hv2, hb2⟩; obtain ⟨a4, c4, -, rfl, -⟩ := hv2.toD.open; obtain ⟨gx2, hcx2, hfx2⟩ := own_box hb2 hlt1 gx1; have hq2 := hq1.trans (hb2.mono hq1.size)))
  refine bodyPost_ret (v := .tuple #[.agg #[.int .u8 l[n].blts[m].kind, .slice a4 l[n].blts[m].marks.length c4], .int .i64 0]) (by simp [results, Try.results36, go_sem, hcx2]) rfl (AtGives.some (base := w1.heap.size) HE1.out HE2.out (x := l[n].blts[m]) ?_ (by omega) ((hq2.setCell (p := ⟨w.heap.size, 0, none⟩) (Nat.le_refl _) _).setCell (p := ⟨w.heap.size, 1, none⟩) (Nat.le_refl _) _))
  refine ⟨_, _, rfl, (wBlt.stable _ _ _ _ _ (((Same.refl _ _).setCell (p := ⟨w.heap.size, 0, none⟩) ?_ _).setCell (p := ⟨w.heap.size, 1, none⟩) ?_ _) hv2).mono fun b hb => hb.1⟩
  · exact fun hb => Nat.lt_irrefl _ (Nat.lt_of_lt_of_le hlt1 hb.1)
  · exact fun hb => Nat.lt_irrefl _ (Nat.lt_of_lt_of_le hlt1 hb.1)

set_option maxHeartbeats 1000000 in
theorem refAt (S : Nat → Prop) (v : Value) (l : List Btc) (c kind bt k : Int) (w : World) (h : RBtcs S w v l) (hsm : Small l) (hbt : -9223372036854775808 ≤ bt ∧ bt ≤ 9223372036854775807) (hkk : -9223372036854775808 ≤ k ∧ k ≤ 9223372036854775807) :
    Calls Try.prog 37 #[v, .int .i64 c, .int .u8 kind, .int .i64 bt, .int .i64 k] w (AtGives l c kind bt k w) := by
  obtain ⟨a, cap, rfl, h1, h2⟩ := RSl.shape h
  have hb0 : Below w.heap.size w (w.alloc (.cells #[.int .u8 0, .slice none 0 0] 25)) := (Below.refl _ _).alloc (Nat.le_refl _) _
  have hbx := box_new w (.cells #[.int .u8 0, .slice none 0 0] 25)
  have hC := refCheck S _ l c kind _ (h.same (.of_below hb0))
  by_cases hc : recCheck l c kind = 0
  case neg =>
    have hc1 : (recCheck l c kind != 0) = true := by simpa using hc
    have he : answAt l c kind bt k = recCheck l c kind ∧ recCheck l c kind ≠ 0 := ⟨by rw [answAt, if_neg hc], hc⟩
    generalize recCheck l c kind = i at *
    have HC := Lib.hid hC; have HE := Lib.hid he; clear hC hc he
    go_enter Try.func37, Try.ntmps37
    go_wp2_with (go_at_call 40; refine HC.out.mono ?_; rintro e w1 ⟨rfl, hb1⟩; obtain ⟨gx1, hcx1, hfx1⟩ := own_box hb1 (by simp) hbx; have hl1 := hb1.size; have hlt1 := size_of_box gx1)
    exact bodyPost_ret (v := .tuple #[.agg #[.int .u8 0, .slice none 0 0], .int .i64 i]) (by simp [results, Try.results37, go_sem, hcx1]) rfl (AtGives.none HE.out ((hb0.trans (hb1.mono (by simp))).setCell (p := ⟨w.heap.size, 0, none⟩) (Nat.le_refl _) _ |>.setCell (p := ⟨w.heap.size, 1, none⟩) (Nat.le_refl _) _))
  rw [hc] at hC
  have hO : ∀ e, (∀ n m : Nat, bt = n → k = m → ∀ (h : n < l.length), ¬ m < l[n].blts.length) → e = 6 → answAt l c kind bt k = e ∧ (e : Int) ≠ 0 := fun e h he => ⟨by rw [answAt, if_pos hc, he]; exact atAt_none h, by omega⟩
  have hS : ∀ n m : Nat, bt = n → k = m → ∀ (h : n < l.length) (h' : m < l[n].blts.length), answAt l c kind bt k = 0 ∧ bltAt l c kind bt k = l[n].blts[m] := fun n m h1 h2 h h' => by
    subst h1 h2
    rw [answAt, bltAt, if_pos hc, if_pos hc]
    exact atAt_some h h'
  have HC := Lib.hid hC; have HO := Lib.hid hO; have HS := Lib.hid hS; clear hC hc hO hS
  by_cases b1 : bt < 0
  · have HE := Lib.hid (HO.out 6 (fun n m hn => by omega) rfl)
    go_enter Try.func37, Try.ntmps37
    go_wp2_with (go_at_call 40; refine HC.out.mono ?_; rintro e w1 ⟨rfl, hb1⟩; obtain ⟨gx1, hcx1, hfx1⟩ := own_box hb1 (by simp) hbx; have hl1 := hb1.size; have hlt1 := size_of_box gx1)
    exact bodyPost_ret (v := .tuple #[.agg #[.int .u8 0, .slice none 0 0], .int .i64 6]) (by simp [results, Try.results37, go_sem, hcx1]) rfl (AtGives.none HE.out ((hb0.trans (hb1.mono (by simp))).setCell (p := ⟨w.heap.size, 0, none⟩) (Nat.le_refl _) _ |>.setCell (p := ⟨w.heap.size, 1, none⟩) (Nat.le_refl _) _))
  by_cases b2 : (l.length : Int) ≤ bt
  · have HE := Lib.hid (HO.out 6 (fun n m hn hm hh => by omega) rfl)
    go_enter Try.func37, Try.ntmps37
    go_wp2_with (go_at_call 40; refine HC.out.mono ?_; rintro e w1 ⟨rfl, hb1⟩; obtain ⟨gx1, hcx1, hfx1⟩ := own_box hb1 (by simp) hbx; have hl1 := hb1.size; have hlt1 := size_of_box gx1)
    exact bodyPost_ret (v := .tuple #[.agg #[.int .u8 0, .slice none 0 0], .int .i64 6]) (by simp [results, Try.results37, go_sem, hcx1]) rfl (AtGives.none HE.out ((hb0.trans (hb1.mono (by simp))).setCell (p := ⟨w.heap.size, 0, none⟩) (Nat.le_refl _) _ |>.setCell (p := ⟨w.heap.size, 1, none⟩) (Nat.le_refl _) _))
  obtain ⟨n, rfl⟩ : ∃ n : Nat, bt = n := ⟨bt.toNat, by omega⟩
  have hn : n < l.length := by omega
  obtain ⟨b, off, c0, d0, rfl, -, hbw, hc0, hd0, hx⟩ := RSl.at2 h n hn
  obtain ⟨a', cap', rfl, rfl, hl1, -, hI⟩ := hx.open
  by_cases b3 : k < 0
  · have HE := Lib.hid (HO.out 6 (fun n m hn hm hh => by omega) rfl)
    go_enter Try.func37, Try.ntmps37
    go_wp2_with (go_at_call 40; refine HC.out.mono ?_; rintro e w1 ⟨rfl, hb1⟩; obtain ⟨gx1, hcx1, hfx1⟩ := own_box hb1 (by simp) hbx; have hl1 := hb1.size; have hlt1 := size_of_box gx1)
    exact bodyPost_ret (v := .tuple #[.agg #[.int .u8 0, .slice none 0 0], .int .i64 6]) (by simp [results, Try.results37, go_sem, hcx1]) rfl (AtGives.none HE.out ((hb0.trans (hb1.mono (by simp))).setCell (p := ⟨w.heap.size, 0, none⟩) (Nat.le_refl _) _ |>.setCell (p := ⟨w.heap.size, 1, none⟩) (Nat.le_refl _) _))
  have hlen : l[n].blts.length ≤ 1000000 := (hsm.2 _ (List.getElem_mem hn)).1
  by_cases b4 : (l[n].blts.length : Int) ≤ k
  · have HE := Lib.hid (HO.out 6 (fun n' m hn' hm hh => by (obtain rfl : n' = n := (by omega)); omega) rfl)
    go_enter Try.func37, Try.ntmps37
    go_wp2_with (first | (go_at_call 40; refine HC.out.mono ?_; rintro e w1 ⟨rfl, hb1⟩; obtain ⟨gx1, hcx1, hfx1⟩ := own_box hb1 (by simp) hbx; have hl1 := hb1.size; have hlt1 := size_of_box gx1; have hd1 := (Same.of_below (S := Any) (hb0.trans (hb1.mono (by simp)))).cell trivial hd0))
    exact bodyPost_ret (v := .tuple #[.agg #[.int .u8 0, .slice none 0 0], .int .i64 6]) (by simp [results, Try.results37, go_sem, hcx1]) rfl (AtGives.none HE.out ((hb0.trans (hb1.mono (by simp))).setCell (p := ⟨w.heap.size, 0, none⟩) (Nat.le_refl _) _ |>.setCell (p := ⟨w.heap.size, 1, none⟩) (Nat.le_refl _) _))
  obtain ⟨m, rfl⟩ : ∃ m : Nat, k = m := ⟨k.toNat, by omega⟩
  have hm : m < l[n].blts.length := by omega
  obtain ⟨b2, off2, c2, d2, rfl, -, hbw2, hc2, hd2, hy⟩ := RSl.at2 hI m hm
  obtain ⟨hE1, hE2⟩ := HS.out n m rfl rfl hn hm
  have hmk : l[n].blts[m].marks.length ≤ 1000000 := (hsm.2 _ (List.getElem_mem hn)).2 _ (List.getElem_mem hm)
  have hCp : ∀ W, Below w.heap.size w W → Calls Try.prog 21 #[.agg #[c2, d2]] W fun e w' => ∃ d, e = .returned (.agg #[.int .u8 l[n].blts[m].kind, d]) ∧ wBlt (Span W.heap.size w'.heap.size) w' [.int .u8 l[n].blts[m].kind, d] l[n].blts[m] ∧ Below W.heap.size W w' :=
    fun W hW => copyRef2 S _ l[n].blts[m] W ⟨_, _, rfl, dBlt.stable S _ _ _ _ (.of_below hW) hy⟩ (by omega)
  obtain ⟨a2, cap2, rfl, rfl, -⟩ := hy.open
  have HCp := Lib.hid hCp; have HE1 := Lib.hid hE1; have HE2 := Lib.hid hE2; clear hCp hE1 hE2 hy hx hI
  go_enter Try.func37, Try.ntmps37
  go_wp2_with (first
    | (go_at_call 40; refine HC.out.mono ?_; rintro e w1 ⟨rfl, hb1⟩; obtain ⟨gx1, hcx1, hfx1⟩ := own_box hb1 (by simp) hbx; have hl1 := hb1.size; have hlt1 := size_of_box gx1; have hq1 : Below w.heap.size w w1 := hb0.trans (hb1.mono (by simp)); have hc1 := (Same.of_below (S := Any) hq1).cell trivial hc0; have hd1 := (Same.of_below (S := Any) hq1).cell trivial hd0; have hc3 := (Same.of_below (S := Any) hq1).cell trivial hc2; have hd3 := (Same.of_below (S := Any) hq1).cell trivial hd2)
    | (go_at_call 21; refine (HCp.out _ hq1).mono ?_; rintro e w2 ⟨d3, rfl, hv2, hb2⟩; obtain ⟨a4, c4, -, rfl, -⟩ := hv2.toD.open; obtain ⟨gx2, hcx2, hfx2⟩ := own_box hb2 hlt1 gx1; have hq2 := hq1.trans (hb2.mono hq1.size)))
  refine bodyPost_ret (v := .tuple #[.agg #[.int .u8 l[n].blts[m].kind, .slice a4 l[n].blts[m].marks.length c4], .int .i64 0]) (by simp [results, Try.results37, go_sem, hcx2]) rfl (AtGives.some (base := w1.heap.size) HE1.out HE2.out (x := l[n].blts[m]) ?_ (by omega) ((hq2.setCell (p := ⟨w.heap.size, 0, none⟩) (Nat.le_refl _) _).setCell (p := ⟨w.heap.size, 1, none⟩) (Nat.le_refl _) _))
  refine ⟨_, _, rfl, (wBlt.stable _ _ _ _ _ (((Same.refl _ _).setCell (p := ⟨w.heap.size, 0, none⟩) ?_ _).setCell (p := ⟨w.heap.size, 1, none⟩) ?_ _) hv2).mono fun b hb => hb.1⟩
  · exact fun hb => Nat.lt_irrefl _ (Nat.lt_of_lt_of_le hlt1 hb.1)
  · exact fun hb => Nat.lt_irrefl _ (Nat.lt_of_lt_of_le hlt1 hb.1)

end Go.Proofs.Ytkjgddcjhikdgaa

/- What the law RecordTells answers. -/
namespace Go.Proofs.Ytkjgddcjhikdgaa
open Go Go.RowKit

set_option maxHeartbeats 1000000 in
theorem tells_great (S : Nat → Prop) (v u : Value) (l o : List Btc) (c kind bt k : Int) (w : World) (h : RBtcs S w v l) (hu : RBtcs S w u o) (hg : (great l || great o) = true) :
    Calls Try.prog 5 #[v, u, .int .i64 c, .int .u8 kind, .int .i64 bt, .int .i64 k] w fun e w' => e = .returned (.bool true) ∧ Below w.heap.size w w' := by
  have hG := great26 S v l w h
  have hG2 := fun W hW => great26 S u o W (hu.same (.of_below (hW : Below w.heap.size w W)))
  obtain ⟨a1, cap1, rfl, -, -⟩ := RSl.shape h
  obtain ⟨a2, cap2, rfl, -, -⟩ := RSl.shape hu
  cases hg1 : great l
  · rw [hg1] at hG hg
    have hg2 : great o = true := by simpa using hg
    rw [hg2] at hG2
    have HG := Lib.hid hG
    have HG2 := Lib.hid hG2
    clear hG hG2 hg hg1 hg2 h hu
    go_enter Try.func5, Try.ntmps5
    go_wp2_with (first | ((with_reducible refine HG.out.mono ?_); rintro e w1 ⟨rfl, hb1⟩) | ((with_reducible refine (HG2.out _ hb1).mono ?_); rintro e w2 ⟨rfl, hb2⟩))
    go_ret
    exact ⟨rfl, hb1.trans (hb2.mono hb1.size)⟩
  · rw [hg1] at hG
    have HG := Lib.hid hG
    clear hG hG2 hg hg1 h hu
    go_enter Try.func5, Try.ntmps5
    go_wp2_with ((with_reducible refine HG.out.mono ?_); rintro e w1 ⟨rfl, hb1⟩)
    go_ret
    exact ⟨rfl, hb1⟩
theorem intsT (S T : Nat → Prop) (u v : Value) (xs : List Int) (w : World) (hx : RInts S w u xs) (hy : RInts T w v xs) :
    Calls Try.prog 41 #[u, v] w fun e w' => e = .returned (.bool true) ∧ Below w.heap.size w w' := by
  have := ints08 S T u v xs xs w hx hy
  rwa [eqL_refl (p := eqInt) (fun x => by simp [eqInt])] at this
theorem recordSameT (S T : Nat → Prop) (u v : Value) (xs : List Btc) (w : World) (hx : RBtcs S w u xs) (hy : RBtcs T w v xs) :
    Calls Try.prog 44 #[u, v] w fun e w' => e = .returned (.bool true) ∧ Below w.heap.size w w' := by
  have := recordSame S T u v xs xs w hx hy
  rwa [eqL_refl eqBtc_refl] at this
/-- At, its ballot laid open. -/
def AtOpen (X : Blt) (I : Int) (w : World) (e : Ending) (w' : World) : Prop :=
  ∃ a n, e = .returned (.tuple #[.agg #[.int .u8 X.kind, .slice a X.marks.length n], .int .i64 I]) ∧ X.marks.length ≤ 140737488355328 ∧ wBlt (Span w.heap.size w'.heap.size) w' [.int .u8 X.kind, .slice a X.marks.length n] X ∧ Below w.heap.size w w'
theorem AtOpen.of {l : List Btc} {c kind bt k : Int} {X : Blt} {I : Int} {w w' : World} {e : Ending} (hX : bltAt l c kind bt k = X) (hI : answAt l c kind bt k = I) (h : AtGives l c kind bt k w e w') : AtOpen X I w e w' := by
  obtain ⟨v, he, ⟨c0, d0, rfl, hx⟩, hb⟩ := h
  rw [hX] at hx
  rw [hI] at he
  obtain ⟨a, n, rfl, rfl, hl, -, -, -⟩ := id hx.toD.open
  exact ⟨a, n, he, hl, hx.cut.mono (fun b hb => ⟨hb.1, hb.2⟩), hb⟩
set_option maxHeartbeats 4000000 in
set_option maxRecDepth 100000 in
theorem tells_small (S : Nat → Prop) (v u : Value) (l o : List Btc) (c kind bt k : Int) (w : World) (h : RBtcs S w v l) (hu : RBtcs S w u o) (hg1 : great l = false) (hg2 : great o = false)
    (hbt : -9223372036854775808 ≤ bt ∧ bt ≤ 9223372036854775807) (hkk : -9223372036854775808 ≤ k ∧ k ≤ 9223372036854775807) :
    Calls Try.prog 5 #[v, u, .int .i64 c, .int .u8 kind, .int .i64 bt, .int .i64 k] w fun e w' => e = .returned (.bool true) ∧ Below w.heap.size w w' := by
  obtain ⟨X, hX⟩ : ∃ X, bltAt l c kind bt k = X := ⟨_, rfl⟩
  obtain ⟨I, hI⟩ : ∃ I, answAt l c kind bt k = I := ⟨_, rfl⟩
  have hsm := small_of hg1
  have hG := great26 S v l w h
  have hG2 := fun W hW => great26 S u o W (hu.same (.of_below (hW : Below w.heap.size w W)))
  rw [hg1] at hG
  rw [hg2] at hG2
  obtain ⟨a1, cap1, rfl, -, -⟩ := RSl.shape h
  obtain ⟨a2, cap2, rfl, -, -⟩ := RSl.shape hu
  have hA := fun W v (hr : RBtcs Any W v l) => (recordAt Any v l c kind bt k W hr hsm hbt hkk).mono fun _ _ => AtOpen.of hX hI
  have hB := fun W v (hr : RBtcs S W v l) => (refAt S v l c kind bt k W hr hsm hbt hkk).mono fun _ _ => AtOpen.of hX hI
  obtain ⟨rc, hrc⟩ : ∃ rc, recCheck l c kind = rc := ⟨_, rfl⟩
  have hC := fun W v (hr : RBtcs Any W v l) => recordCheck Any v l c kind W hr
  have hD := fun W v (hr : RBtcs S W v l) => refCheck S v l c kind W hr
  rw [hrc] at hC hD
  obtain ⟨eo, heo⟩ : ∃ eo, eqL eqBtc l o = eo := ⟨_, rfl⟩
  have hE := fun W v u (hr : RBtcs Any W v l) (hs : RBtcs S W u o) => recordSame Any S v u l o W hr hs
  have hF := fun W v u (hr : RBtcs S W v l) (hs : RBtcs S W u o) => same26 S S v u l o W hr hs
  rw [heo] at hE hF
  have HG := Lib.hid hG; have HG2 := Lib.hid hG2; have HA := Lib.hid hA; have HB := Lib.hid hB; have HC := Lib.hid hC; have HD := Lib.hid hD; have HE := Lib.hid hE; have HF := Lib.hid hF
  have H := Lib.hid h; have Hu := Lib.hid hu; have Hsm := Lib.hid hsm
  clear hG hG2 hA hB hC hD hE hF h hu hsm hg1 hg2 hX hI hrc heo
  go_enter Try.func5, Try.ntmps5
  go_upto_region 7 with (first
    | ((with_reducible refine HG.out.mono ?_); rintro e w1 ⟨rfl, hb1⟩)
    | ((with_reducible refine (HG2.out _ hb1).mono ?_); rintro e w2 ⟨rfl, hb2⟩; have hq2 : Below w.heap.size w w2 := hb1.trans (hb2.mono hb1.size))
    | (go_at_call 20; refine (twinRef S _ l _ (H.out.same (.of_below hq2)) Hsm.out).mono ?_; rintro e w3 ⟨v3, ys, rfl, htw, hys, hb3⟩; have hq3 := hq2.trans (hb3.mono hq2.size); have hr3 := RBtcs.mono (T := Any) (fun _ _ => trivial) (twin_reads htw hys Hsm.out).toR; obtain ⟨a3, c3, rfl, -, -⟩ := id (RSl.shape hr3); have hl3 := hq3.size; have HR3 := Lib.hid hr3; clear htw hys hr3)
    | (go_at_call 36; refine (HA.out _ _ HR3.out).mono ?_; rintro e w4 ⟨a4, n4, rfl, hn4, hx4, hb4⟩; have hl4 := hb4.size; have HX4 := Lib.hid hx4; clear hx4)
    | (go_at_call 37; have hq4 := hq3.trans (hb4.mono hl3); refine (HB.out _ _ (H.out.same (.of_below (hq4.trans ((below_new _ _).mono hq4.size))))).mono ?_; rintro e w5 ⟨a5, n5, rfl, hn5, hx5, hb5⟩; have hl5 : w4.heap.size < w5.heap.size := (by have := hb5.size; simp at this; omega); have HX5 := Lib.hid hx5; obtain ⟨gz5, hcz5, hfz5⟩ := own_box hb5 (by simp) (box_new w4 _); clear hx5)
    | (go_at_call 38; have hd45 : Below w4.heap.size w4 (w5.alloc (.cells #[.int .u8 X.kind, .slice a5 X.marks.length n5] 25)) := ((below_new _ _).trans (hb5.mono (by simp))).trans ((below_new _ _).mono (by omega)); have hd35 := hb4.trans (hd45.mono hl4); refine (twin Any _ l _ (HR3.out.same (.of_below hd35)) Hsm.out).mono ?_; rintro e w6 ⟨v6, ys6, rfl, htw6, hys6, hb6⟩; have hl6 : w5.heap.size < w6.heap.size := (by have := hb6.size; simp at this; omega); have ht6 := twin_reads htw6 hys6 Hsm.out; obtain ⟨a6, c6, rfl, -, -⟩ := id (RSl.shape ht6.1); have HT6 := Lib.hid ht6; obtain ⟨gz6, hcz6, hfz6⟩ := own_box hb6 (by simp; omega) (box_old _ gz5); obtain ⟨gy6, hcy6, hfy6⟩ := own_box hb6 (by simp) (box_new w5 _); clear htw6 hys6 ht6))
  have hf6 : Below w4.heap.size w4 w6 := hd45.trans (hb6.mono (by simp; omega))
  have hd6 : Below w3.heap.size w3 w6 := hb4.trans (hf6.mono hl4)
  have hq6 : Below w.heap.size w w6 := hq3.trans (hd6.mono hl3)
  have hR : ∀ W, Below w6.heap.size w6 W → RBtcs Any W (.slice a3 l.length c3) l := fun W hW => (HR3.out.same (.of_below hd6)).same (.of_below hW)
  have hL : ∀ W, Below w6.heap.size w6 W → RBtcs S W (.slice a1 l.length cap1) l := fun W hW => (H.out.same (.of_below hq6)).same (.of_below hW)
  have hO : ∀ W, Below w6.heap.size w6 W → RBtcs S W (.slice a2 o.length cap2) o := fun W hW => (Hu.out.same (.of_below hq6)).same (.of_below hW)
  have hX : ∀ W, Below w6.heap.size w6 W → VBlt (Span w3.heap.size w4.heap.size) W (.agg #[.int .u8 X.kind, .slice a4 X.marks.length n4]) X := fun W hW => ⟨_, _, rfl, dBlt.stable _ _ _ _ _ (.of_below hW) (dBlt.stable _ _ _ _ _ (.of_below hf6) HX4.out.toD)⟩
  have hY : ∀ W, Below w6.heap.size w6 W → VBlt (Span (w4.alloc (.cells #[.int .u8 X.kind, .slice a4 X.marks.length n4] 25)).heap.size w5.heap.size) W (.agg #[.int .u8 X.kind, .slice a5 X.marks.length n5]) X := fun W hW =>
    ⟨_, _, rfl, dBlt.stable _ _ _ _ _ (.of_below hW) (dBlt.stable _ _ _ _ _ (.of_below (((below_new _ _).trans (hb6.mono (by simp))) : Below w5.heap.size w5 w6)) HX5.out.toD)⟩
  have HRR := Lib.hid hR; have HLL := Lib.hid hL; have HOO := Lib.hid hO; have HXX := Lib.hid hX; have HYY := Lib.hid hY
  clear hR hL hO hX hY HG HG2 HA HB HX5 hcz5 hfz5 gz5
  go_upto_region 9 with (first
    | (go_at_call 39; refine (HC.out _ _ (HRR.out _ (Below.refl _ _))).mono ?_; rintro e w7 ⟨rfl, hp7⟩; have hl7 := hp7.size)
    | (go_at_call 40; refine (HD.out _ _ (HLL.out _ hp7)).mono ?_; rintro e w8 ⟨rfl, hb8⟩; have hp8 := hp7.trans (hb8.mono hl7); have hl8 := hp8.size; obtain ⟨gz8, hcz8, hfz8⟩ := own_box hp8 (by omega) gz6; obtain ⟨gy8, hcy8, hfy8⟩ := own_box hp8 (by omega) gy6)
    | (go_at_call 26; refine (same08T _ _ _ _ _ _ (HXX.out _ hp8) (HYY.out _ hp8)).mono ?_; rintro e w9 ⟨rfl, hb9⟩; have hp9 := hp8.trans (hb9.mono hl8); have hl9 := hp9.size)
    | (go_at_call 42; refine (recordSizes Any _ l _ (HRR.out _ hp9) Hsm.out).mono ?_; rintro e w10 ⟨v10, rfl, ho10, hb10⟩; obtain ⟨ax10, cx10, rfl⟩ := id (Own.shape ho10); have hp10 := hp9.trans (hb10.mono hl9); have hl10 := hp10.size; have Ho10 := Lib.hid ho10; clear ho10)
    | (go_at_call 43; refine (refSizes S _ l _ (HLL.out _ hp10) Hsm.out).mono ?_; rintro e w11 ⟨v11, rfl, ho11, hb11⟩; obtain ⟨ax11, cx11, rfl⟩ := id (Own.shape ho11); have hp11 := hp10.trans (hb11.mono hl10); have hl11 := hp11.size; have Ho11 := Lib.hid ho11; clear ho11)
    | (go_at_call 41; refine (intsT _ _ _ _ (sizesL l) _ (RInts.same (.of_below hb11) (Own.rsl Ho10.out (by have := Hsm.out.1; simp [sizesL]; omega))) (Own.rsl Ho11.out (by have := Hsm.out.1; simp [sizesL]; omega))).mono ?_; rintro e w12 ⟨rfl, hb12⟩; have hp12 := hp11.trans (hb12.mono hl11); have hl12 := hp12.size)
    | (go_at_call_of 24 (a6); refine (sameT _ _ _ _ _ _ (HT6.out.same (.of_below hp12)).toR (HLL.out _ hp12)).mono ?_; rintro e w13 ⟨rfl, hb13⟩; have hp13 := hp12.trans (hb13.mono hl12); have hl13 := hp13.size)
    | (go_at_call_of 44 (a2); refine (HE.out _ _ _ (HRR.out _ hp13) (HOO.out _ hp13)).mono ?_; rintro e w14 ⟨rfl, hb14⟩; have hp14 := hp13.trans (hb14.mono hl13); have hl14 := hp14.size)
    | (go_at_call_of 24 (a2); refine (HF.out _ _ _ (HLL.out _ hp14) (HOO.out _ hp14)).mono ?_; rintro e w15 ⟨rfl, hb15⟩; have hp15 := hp14.trans (hb15.mono hl14); have hl15 := hp15.size)
    | (go_at_call 44; refine (recordSameT _ _ _ _ _ _ (HRR.out _ hp15) (HLL.out _ hp15)).mono ?_; rintro e w16 ⟨rfl, hb16⟩; have hp16 := hp15.trans (hb16.mono hl15); have hl16 := hp16.size))
  have hd16 : Below w3.heap.size w3 w16 := hd6.trans (hp16.mono (by omega))
  have hf16 : Below w4.heap.size w4 w16 := hf6.trans (hp16.mono (by omega))
  obtain ⟨gz16, -, -⟩ := own_box hp16 (by omega) gz6
  go_upto_block 0 with (go_at_call 25; refine (spoil (w5.alloc (.cells #[.int .u8 X.kind, .slice a5 X.marks.length n5] 25)).heap.size _ _ w16 (ShC.of (fun b hb => hb.1) (HT6.out.same (.of_below hp16)))).mono ?_; rintro e w17 ⟨⟨u8, rfl⟩, hb17⟩)
  have hb17' : Below (w5.heap.size + 1) w16 w17 := hb17.mono (by simp)
  have hd17 : Below w3.heap.size w3 w17 := hd16.trans (hb17'.mono (by omega))
  have hf17 : Below w4.heap.size w4 w17 := hf16.trans (hb17'.mono (by omega))
  obtain ⟨gz17, -, -⟩ := own_box hb17' (by omega) gz16
  have hW17 : wBlt (Span w3.heap.size w4.heap.size) w17 [.int .u8 X.kind, .slice a4 X.marks.length n4] X := wBlt.stable _ _ _ _ _ (.of_below hf17) HX4.out
  obtain ⟨v17, e17, -, -, hs17⟩ := hW17
  simp only [List.cons.injEq, and_true, true_and] at e17
  subst e17
  have hlt : ∀ b off, a4 = some ⟨b, off, none⟩ → X.marks.length ≠ 0 → b < w4.heap.size := by
    intro b off hb hn
    obtain ⟨b', off', _, e, hS, -, -, -⟩ := RSl.at1 hs17.1 0 (by omega)
    rw [hb] at e
    simp only [Option.some.injEq, Addr.mk.injEq, and_true] at e
    rw [e.1]
    exact hS.2
  have hi17 : ShI w3.heap.size w17 (.slice a4 X.marks.length n4) X.marks.length := ShI.of (fun b hb => hb.1) hs17
  have Hlt := Lib.hid hlt
  clear hlt hs17 hb17
  go_wp2
  go_loopw [20] (fun i wr => ∃ m : Nat, m ≤ X.marks.length ∧ i = .int .i64 m ∧ Hid (wr.heap[w4.heap.size]? = some (.cells #[.int .u8 X.kind, .slice a4 X.marks.length n4] 25 (0, 0))) ∧ ShI w3.heap.size wr (.slice a4 X.marks.length n4) X.marks.length ∧ Below w3.heap.size w3 wr) (fun i _ => X.marks.length - (intOf i).toNat)
  case atStart => exact ⟨0, Nat.zero_le _, rfl, Lib.hid gz17, hi17, hd17⟩
  case round =>
    obtain ⟨m, hm, rfl, hbx, hsh, hdr⟩ := hrel
    obtain ⟨-, hcr, hfr⟩ := own_box (Below.refl _ _) (size_of_box hbx.out) hbx.out
    by_cases hml : m < X.marks.length
    · obtain ⟨a', cap', e', -, -, hx⟩ := id hsh
      simp only [Value.slice.injEq, true_and] at e'
      obtain ⟨rfl, rfl⟩ := e'
      obtain ⟨b, off, i0, rfl, hb3, hsf, hc⟩ := hx m hml
      have hne : b < w4.heap.size := Hlt.out b off rfl (by omega)
      have hf3 := hsf.frozen (off + m)
      clear hx
      go_wp2
      exact ⟨⟨m + 1, by omega, by go_num, Lib.hid ((Below.heap_setCell _ ⟨b, off + m, none⟩ _ _ (by simp; omega)).trans hbx.out), hsh.kin (Kin.setCell hc (.inl ⟨_, _, _, rfl, rfl⟩)), hdr.setCell (p := ⟨b, off + m, none⟩) hb3 _⟩, by simp [intOf]; omega⟩
    · have hqr : Below w.heap.size w wr := hq3.trans (hdr.mono hl3)
      go_wp2_with (go_at_call 24; refine (sameT _ _ _ _ _ _ (HR3.out.same (.of_below hdr)) (H.out.same (.of_below hqr))).mono ?_; rintro e w18 ⟨rfl, hb18⟩)
      go_ret
      exact ⟨rfl, hqr.trans (hb18.mono hqr.size)⟩
theorem law_tells (v u : Value) (l o : List Btc) (c kind bt k : Int) (w : World) (h : RBtcs Any w v l) (hu : RBtcs Any w u o) (_ : (Lit.int .i64 c).wf = true) (_ : (Lit.int .u8 kind).wf = true) (hbt : (Lit.int .i64 bt).wf = true) (hkk : (Lit.int .i64 k).wf = true) :
    Calls Try.prog 5 #[v, u, .int .i64 c, .int .u8 kind, .int .i64 bt, .int .i64 k] w fun e w' => e = .returned (.bool true) ∧ Below w.heap.size w w' := by
  cases hg : (great l || great o)
  · simp only [Bool.or_eq_false_iff] at hg
    exact tells_small Any v u l o c kind bt k w h hu hg.1 hg.2 (wf_i64 hbt) (wf_i64 hkk)
  · exact tells_great Any v u l o c kind bt k w h hu hg
end Go.Proofs.Ytkjgddcjhikdgaa
