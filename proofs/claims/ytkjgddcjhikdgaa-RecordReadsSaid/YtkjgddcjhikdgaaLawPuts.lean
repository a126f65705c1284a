/- What the law RecordPuts answers. -/
import Derived.Test.YtkjgddcjhikdgaaPutR
import Derived.Test.YtkjgddcjhikdgaaSpoil
import Derived.Test.YtkjgddcjhikdgaaSame2
import Derived.Deep.CutRange
namespace Go.Proofs.Ytkjgddcjhikdgaa
open Go Go.RowKit

set_option maxHeartbeats 1000000 in
theorem puts_great (S : Nat → Prop) (v u : Value) (l : List Btc) (c kind : Int) (nm : ByteArray) (b : Blt) (w : World) (h : RBtcs S w v l) (hu : VBlt S w u b) (hg : (great l || greatBlt b || decide (1000 < nm.size)) = true) :
    Calls Try.prog 3 #[v, .int .i64 c, .int .u8 kind, .string nm, u] w fun e w' => e = .returned (.bool true) ∧ Below w.heap.size w w' := by
  obtain ⟨c0, d0, rfl, hB⟩ := hu
  obtain ⟨a0, cap0, rfl, rfl, -, -, -, -⟩ := hB.open
  have hb0 : Below w.heap.size w (w.alloc (.cells #[.int .u8 b.kind, .slice a0 b.marks.length cap0] 25)) := (Below.refl _ _).alloc (Nat.le_refl _) _
  have hbx := box_new w (.cells #[.int .u8 b.kind, .slice a0 b.marks.length cap0] 25)
  have hG := great26 S v l _ (h.same (.of_below hb0))
  have hG8 : ∀ W, Below w.heap.size w W → Calls Try.prog 19 #[.agg #[.int .u8 b.kind, .slice a0 b.marks.length cap0]] W fun e w' => e = .returned (.bool (greatBlt b)) ∧ Below W.heap.size W w' :=
    fun W hW => great08 S _ b W ⟨_, _, rfl, dBlt.stable S _ _ _ _ (.of_below hW) hB⟩
  clear h hB
  cases hg1 : great l
  · rw [hg1] at hG hg
    cases hg2 : greatBlt b
    · rw [hg2] at hG8 hg
      have hsz : ((nm.size : Int) > 1000) := by simp at hg; omega
      have HG := Lib.hid hG
      have HG8 := Lib.hid hG8
      clear hG hG8 hg hg1 hg2
      go_enter Try.func3, Try.ntmps3
      go_wp2_with (first | (go_at_call 18; refine HG.out.mono ?_; rintro e w1 ⟨rfl, hb1⟩; have hq1 : Below w.heap.size w w1 := hb0.trans (hb1.mono (by simp)); obtain ⟨gx1, hcx1, hfx1⟩ := own_box hb1 (by simp) hbx) | (go_at_call 19; refine (HG8.out _ hq1).mono ?_; rintro e w2 ⟨rfl, hb2⟩))
      go_ret
      exact ⟨rfl, hq1.trans (hb2.mono hq1.size)⟩
    · rw [hg2] at hG8
      have HG := Lib.hid hG
      have HG8 := Lib.hid hG8
      clear hG hG8 hg hg1 hg2
      go_enter Try.func3, Try.ntmps3
      go_wp2_with (first | (go_at_call 18; refine HG.out.mono ?_; rintro e w1 ⟨rfl, hb1⟩; have hq1 : Below w.heap.size w w1 := hb0.trans (hb1.mono (by simp)); obtain ⟨gx1, hcx1, hfx1⟩ := own_box hb1 (by simp) hbx) | (go_at_call 19; refine (HG8.out _ hq1).mono ?_; rintro e w2 ⟨rfl, hb2⟩))
      go_ret
      exact ⟨rfl, hq1.trans (hb2.mono hq1.size)⟩
  · rw [hg1] at hG
    have HG := Lib.hid hG
    clear hG hG8 hg hg1
    go_enter Try.func3, Try.ntmps3
    go_wp2_with (go_at_call 18; refine HG.out.mono ?_; rintro e w1 ⟨rfl, hb1⟩)
    go_ret
    exact ⟨rfl, hb0.trans (hb1.mono (by simp))⟩
/-- Behind the copies: own batches and an own ballot, the ballot in a block of its own. -/
def PutsR (w : World) (l : List Btc) (b : Blt) (o : Obj) (s11 s12 : Value) (wc : World) : Prop :=
  ∃ g4 a4 c4, s12 = .pointer (some ⟨g4, 0, none⟩) ∧ wc.heap[g4]? = some (.cells #[.int .u8 b.kind, .slice a4 b.marks.length c4] 25 (0, 0)) ∧ RBtcs Any wc s11 l ∧
    dBlt Any wc [.int .u8 b.kind, .slice a4 b.marks.length c4] b ∧ Below w.heap.size w wc ∧ wc.heap[w.heap.size]? = some o
theorem sameT (S T : Nat → Prop) (u v : Value) (xs : List Btc) (w : World) (hx : RBtcs S w u xs) (hy : RBtcs T w v xs) :
    Calls Try.prog 24 #[u, v] w fun e w' => e = .returned (.bool true) ∧ Below w.heap.size w w' := by
  have := same26 S T u v xs xs w hx hy
  rwa [eqL_refl eqBtc_refl] at this
theorem same08T (S T : Nat → Prop) (u v : Value) (x : Blt) (w : World) (hx : VBlt S w u x) (hy : VBlt T w v x) :
    Calls Try.prog 26 #[u, v] w fun e w' => e = .returned (.bool true) ∧ Below w.heap.size w w' := by
  have := same08 S T u v x x w hx hy
  rwa [eqBlt_refl] at this
theorem PutsR.stored {w w3 w4 : World} {l : List Btc} {b : Blt} {o : Obj} {v3 : Value} {g lo hi lo4 hi4 : Nat} {a4 : Option Addr} {c4 : Nat} {cs : Array Value} (hR : RBtcs (Span lo hi) w3 v3 l) (h34 : Below w3.heap.size w3 w4)
    (hB : dBlt (Span lo4 hi4) w4 [.int .u8 b.kind, .slice a4 b.marks.length c4] b) (hg : w4.heap[g]? = some (.cells cs 25 (0, 0))) (hcs : cs = #[.int .u8 0, .slice none 0 0]) (h1 : ¬ Span lo hi g) (h4 : ¬ Span lo4 hi4 g)
    (hw : Below w.heap.size w w4) (hgw : w.heap.size < g) (ho : w4.heap[w.heap.size]? = some o) :
    PutsR w l b o v3 (.pointer (some ⟨g, 0, none⟩)) ((w4.setCell ⟨g, 0, none⟩ (.int .u8 b.kind)).setCell ⟨g, 1, none⟩ (.slice a4 b.marks.length c4)) := by
  subst hcs
  refine ⟨g, a4, c4, rfl, ?_, ?_, ?_, (hw.setCell (p := ⟨g, 0, none⟩) (Nat.le_of_lt hgw) _).setCell (p := ⟨g, 1, none⟩) (Nat.le_of_lt hgw) _, ?_⟩
  · have := heap_setCell_at (o := 1) (heap_setCell_at (o := 0) hg (.int .u8 b.kind)) (.slice a4 b.marks.length c4)
    simpa using this
  · exact (hR.same (((Same.of_below h34).setCell (p := ⟨g, 0, none⟩) h1 _).setCell (p := ⟨g, 1, none⟩) h1 _)).mono (fun _ _ => trivial)
  · exact (dBlt.stable _ _ _ _ _ (((Same.refl _ _).setCell (p := ⟨g, 0, none⟩) h4 _).setCell (p := ⟨g, 1, none⟩) h4 _) hB).mono (fun _ _ => trivial)
  · exact (setCell2_off (by omega) _ _).trans ho
theorem PutsR.laid {w w3 w4 : World} {l : List Btc} {b : Blt} {o : Obj} {v3 : Value} {a4 : Option Addr} {c4 : Nat} {T T' : Nat → Prop} (hR : RBtcs T w3 v3 l) (h34 : Below w3.heap.size w3 w4)
    (hB : dBlt T' w4 [.int .u8 b.kind, .slice a4 b.marks.length c4] b) (hw : Below w.heap.size w w4) (ho : w4.heap[w.heap.size]? = some o) :
    PutsR w l b o v3 (.pointer (some ⟨w4.heap.size, 0, none⟩)) (w4.alloc (.cells #[.int .u8 b.kind, .slice a4 b.marks.length c4] 25)) := by
  have h5 : Below w4.heap.size w4 (w4.alloc (.cells #[.int .u8 b.kind, .slice a4 b.marks.length c4] 25)) := (Below.refl _ _).alloc (Nat.le_refl _) _
  exact ⟨_, a4, c4, rfl, box_new _ _, (hR.same (.of_below (h34.trans (h5.mono h34.size)))).mono (fun _ _ => trivial), (dBlt.stable _ _ _ _ _ (.of_below h5) hB).mono (fun _ _ => trivial), hw.alloc hw.size _, box_old _ ho⟩
set_option maxHeartbeats 2000000 in
set_option maxRecDepth 100000 in
theorem puts_small (S : Nat → Prop) (v u : Value) (l : List Btc) (c kind : Int) (nm : ByteArray) (b : Blt) (w : World) (h : RBtcs S w v l) (hu : VBlt S w u b) (hg1 : great l = false) (hg2 : greatBlt b = false) (hg3 : nm.size ≤ 1000) :
    Calls Try.prog 3 #[v, .int .i64 c, .int .u8 kind, .string nm, u] w fun e w' => e = .returned (.bool true) ∧ Below w.heap.size w w' := by
  obtain ⟨c0, d0, rfl, hB⟩ := hu
  obtain ⟨a0, cap0, rfl, rfl, -, -, -, -⟩ := hB.open
  have hsm := small_of hg1
  have hmk : b.marks.length ≤ 1000000 := by simp [greatBlt] at hg2; omega
  have hb0 : Below w.heap.size w (w.alloc (.cells #[.int .u8 b.kind, .slice a0 b.marks.length cap0] 25)) := (Below.refl _ _).alloc (Nat.le_refl _) _
  have hbx := box_new w (.cells #[.int .u8 b.kind, .slice a0 b.marks.length cap0] 25)
  have hG := great26 S v l _ (h.same (.of_below hb0))
  rw [hg1] at hG
  have hG8 : ∀ W, Below w.heap.size w W → Calls Try.prog 19 #[.agg #[.int .u8 b.kind, .slice a0 b.marks.length cap0]] W fun e w' => e = .returned (.bool false) ∧ Below W.heap.size W w' :=
    fun W hW => by rw [← hg2]; exact great08 S _ b W ⟨_, _, rfl, dBlt.stable S _ _ _ _ (.of_below hW) hB⟩
  have hT : ∀ W, Below w.heap.size w W → Calls Try.prog 20 #[v] W (fun e w' => ∃ v ys, e = .returned v ∧ Twinned W.heap.size w' v ys ∧ ys.map (·.x) = l ∧ Below W.heap.size W w') :=
    fun W hW => twinRef S v l W (h.same (.of_below hW)) hsm
  have hCp : ∀ W, Below w.heap.size w W → Calls Try.prog 21 #[.agg #[.int .u8 b.kind, .slice a0 b.marks.length cap0]] W fun e w' => ∃ d, e = .returned (.agg #[.int .u8 b.kind, d]) ∧ wBlt (Span W.heap.size w'.heap.size) w' [.int .u8 b.kind, d] b ∧ Below W.heap.size W w' :=
    fun W hW => copyRef2 S _ b W ⟨_, _, rfl, dBlt.stable S _ _ _ _ (.of_below hW) hB⟩ (by omega)
  have HG := Lib.hid hG
  have HG8 := Lib.hid hG8
  have HT := Lib.hid hT
  have HCp := Lib.hid hCp
  have H := Lib.hid h
  have HB := Lib.hid hB
  have Hsm := Lib.hid hsm
  clear hG hG8 hT hCp h hB hsm hg1 hg2
  go_enter Try.func3, Try.ntmps3
  go_upto_region 3 with (first | (go_at_call 18; refine HG.out.mono ?_; rintro e w1 ⟨rfl, hb1⟩; have hq1 : Below w.heap.size w w1 := hb0.trans (hb1.mono (by simp)); obtain ⟨gx1, hcx1, hfx1⟩ := own_box hb1 (by simp) hbx) | (go_at_call 19; refine (HG8.out _ hq1).mono ?_; rintro e w2 ⟨rfl, hb2⟩; have hq2 : Below w.heap.size w w2 := hq1.trans (hb2.mono hq1.size); obtain ⟨gx2, hcx2, hfx2⟩ := own_box hb2 (size_of_box gx1) gx1))
  have hs2 := hq2.size
  have hltw2 := size_of_box gx2
  go_cut [11, 12] from 29 to 71 (fun s11 s12 wc => PutsR w l b (.cells #[.int .u8 b.kind, .slice a0 b.marks.length cap0] 25 (0, 0)) s11 s12 wc)
  case first =>
    go_region_law (first | (go_simp; go_at_call 20; refine (HT.out _ (by first | exact hq2.drew | exact hq2.drew.alloc hs2 _ | exact (hq2.alloc hs2 _).drew)).mono ?_; rintro e w3 ⟨v3, ys, rfl, htw, hys, hb3⟩; have hq3 : Below w.heap.size w w3 := (by first | exact (hq2.drew).trans (hb3.mono hs2) | exact (hq2.drew.alloc hs2 _).trans (hb3.mono (by simp; omega)) | exact ((hq2.alloc hs2 _).drew).trans (hb3.mono (by simp; omega))); have hs3 := hq3.size; have hbx3 := own_box (g := w.heap.size) (cs := #[.int .u8 b.kind, .slice a0 b.marks.length cap0]) (e := 25) hb3 (by simp; omega) (by first | exact gx2 | exact box_old _ gx2); obtain ⟨gx3, hcx3, hfx3⟩ := hbx3; have hltw3 : w.heap.size < w3.heap.size := (by have h1 := size_of_box gx2; have h2 := hb3.size; simp at h2; omega); try (have hbyB := own_box (g := w2.heap.size) (cs := #[.int .u8 0, .slice none 0 0]) (e := 25) hb3 (by simp) (by first | exact box_new w2 _ | exact box_new w2.drew _); obtain ⟨gyB, hcyB, hfyB⟩ := hbyB)) | (go_simp; go_at_call 21; refine (HCp.out _ (by first | exact hq3 | exact hq3.alloc hs3 _)).mono ?_; rintro e w4 ⟨d4, rfl, hv4, hb4⟩; obtain ⟨a4, c4, -, rfl, -⟩ := hv4.toD.open; have hlt4 := hb4.size; (try (have hbyA := own_box (g := w3.heap.size) (cs := #[.int .u8 0, .slice none 0 0]) (e := 25) hb4 (by simp) (by first | exact box_new w3 _ | exact box_new w3.drew _); obtain ⟨gyA, hcyA, hfyA⟩ := hbyA)); (try (have hbyC := own_box (g := w2.heap.size) (cs := #[.int .u8 0, .slice none 0 0]) (e := 25) hb4 (by have := size_of_box gyB; first | exact this | omega | (simp; omega)) (by first | exact gyB | exact box_old _ gyB); obtain ⟨gyC, hcyC, hfyC⟩ := hbyC))))
    all_goals
      go_wp2_with fail
      go_meet
      have HR := (Twinned.wsl htw (by have := congrArg List.length hys; have := Hsm.out.1; simp at *; omega)).toR
      rw [hys] at HR
      have hsx := size_of_box gx3
      have hB4 := hv4.toD
      first
      | exact PutsR.stored HR ((below_new _ _).trans (hb4.mono (by simp))) hB4 gyA rfl (not_span_hi (Nat.le_refl _)) (not_span_lo (by simp)) (hq3.trans ((below_new _ _).trans (hb4.mono (by simp)) |>.mono hq3.size)) (by omega) (keep_box ((below_new _ _).trans (hb4.mono (by simp))) gx3)
      | exact PutsR.stored HR hb4 hB4 gyC rfl (not_span_lo (by simp)) (not_span_lo (size_of_box gyB)) (hq3.trans (hb4.mono hq3.size)) (by omega) (keep_box hb4 gx3)
      | exact PutsR.laid HR hb4 hB4 (hq3.trans (hb4.mono hq3.size)) (keep_box hb4 gx3)
  case rest =>
    obtain ⟨g4, a4, c4, rfl, hg4, hR, hB4, hbc, hxw⟩ := hcut
    obtain ⟨-, hcg4, hfg4⟩ := own_box (Below.refl _ _) (size_of_box hg4) hg4
    obtain ⟨-, hcxw, hfxw⟩ := own_box (Below.refl _ _) (size_of_box hxw) hxw
    have hlg4 := size_of_box hg4
    have hlxw := size_of_box hxw
    obtain ⟨ao, co, rfl, -, -⟩ := RSl.shape hR
    have Hg4 := Lib.hid hg4
    have Hxw := Lib.hid hxw
    have HR := Lib.hid hR
    have HB4 := Lib.hid hB4
    have Hbc := Lib.hid hbc
    clear hg4 hxw hR hB4 hbc HT HCp HG HG8
    have hS0 : ∀ W, Below w.heap.size w W → VBlt S W (.agg #[.int .u8 b.kind, .slice a0 b.marks.length cap0]) b := fun W hW => ⟨_, _, rfl, dBlt.stable S _ _ _ _ (.of_below hW) HB.out⟩
    have HS0 := Lib.hid hS0
    clear hS0
    go_wp2_with (first
      | (go_at_call 22; refine (put Any _ _ l c kind nm b _ HR.out ⟨_, _, rfl, HB4.out⟩ (by omega) Hsm.out hmk).mono ?_; rintro e w5 ⟨v5, rfl, hv5, hb5⟩; have hl5 := hb5.size; obtain ⟨ax5, cx5, hx5, -, -⟩ := RSl.shape hv5.1; have Hv5 := Lib.hid hv5; have Hx5 := Lib.hid hx5; clear hv5 hx5; obtain ⟨gz5, hcz5, hfz5⟩ := own_box hb5 hlxw Hxw.out; obtain ⟨gg5, hcg5, hfg5⟩ := own_box hb5 hlg4 Hg4.out)
      | (go_at_call 23; have hq5 : Below w.heap.size w w5 := Hbc.out.trans (hb5.mono Hbc.out.size); refine (refPut S _ _ l c kind nm b _ (H.out.same (.of_below hq5)) (HS0.out _ hq5) (by omega) Hsm.out hmk).mono ?_; rintro e w6 ⟨v6, rfl, hv6, hb6⟩; have Hv6 := Lib.hid hv6; have hl6 := hb6.size; obtain ⟨gz6, hcz6, hfz6⟩ := own_box hb6 (by omega) gz5; obtain ⟨gg6, hcg6, hfg6⟩ := own_box hb6 (by omega) gg5; clear hv6)
      | (go_at_call_of 24 (v5); refine (sameT _ _ _ _ _ _ (Hv5.out.same (.of_below hb6)).toR Hv6.out.toR).mono ?_; rintro e w7 ⟨rfl, hb7⟩; have hl7 := hb7.size; obtain ⟨gz7, hcz7, hfz7⟩ := own_box hb7 (by omega) gz6; obtain ⟨gg7, hcg7, hfg7⟩ := own_box hb7 (by omega) gg6)
      | (go_at_call 25; have hw7 := (Hv5.out.same (.of_below hb6)).same (.of_below hb7); have h57 := ((hb6.mono hl5).trans (hb7.mono (by omega)) : Below wc.heap.size w5 w7); refine (spoil wc.heap.size v5 _ w7 (ShC.of (fun _ hh => hh) hw7)).mono ?_; rintro e w8 ⟨⟨u8, rfl⟩, hb8⟩; have hq8 : Below wc.heap.size wc w8 := (hb5.trans h57).trans hb8; have hl8 := hq8.size; obtain ⟨gz8, hcz8, hfz8⟩ := own_box hq8 hlxw Hxw.out; obtain ⟨gg8, hcg8, hfg8⟩ := own_box hq8 hlg4 Hg4.out; have hr8 : Below w.heap.size w w8 := Hbc.out.trans (hq8.mono Hbc.out.size); clear hw7 h57)
      | (go_at_call 24; refine (sameT _ _ _ _ _ _ (HR.out.same (.of_below hq8)) (H.out.same (.of_below hr8))).mono ?_; rintro e w9 ⟨rfl, hb9⟩; have hl9 := hb9.size; obtain ⟨gz9, hcz9, hfz9⟩ := own_box hb9 (by omega) gz8; obtain ⟨gg9, hcg9, hfg9⟩ := own_box hb9 (by omega) gg8)
      | (go_at_call 26; have hq9 : Below wc.heap.size wc w9 := hq8.trans (hb9.mono hl8); refine (same08T _ _ _ _ _ _ ⟨_, _, rfl, dBlt.stable _ _ _ _ _ (.of_below hq9) HB4.out⟩ (HS0.out _ (hr8.trans (hb9.mono hr8.size)))).mono ?_; rintro e w10 ⟨rfl, hb10⟩))
    go_ret
    exact ⟨rfl, (hr8.trans (hb9.mono hr8.size)).trans (hb10.mono (by have := hr8.size; omega))⟩
end Go.Proofs.Ytkjgddcjhikdgaa
