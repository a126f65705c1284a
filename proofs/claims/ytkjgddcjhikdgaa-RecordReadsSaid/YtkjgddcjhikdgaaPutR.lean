/- The contract of the reference's Put: one theorem for each way it goes. Printed by wip/tools/putr.py. -/
import Derived.Test.YtkjgddcjhikdgaaPutP
import Derived.Test.YtkjgddcjhikdgaaRef26b
namespace Go.Proofs.Ytkjgddcjhikdgaa
open Go Go.RowKit

theorem recCheck_zero {l : List Btc} {c kind : Int} (h : recCheck l c kind = 0) : 1 ≤ c ∧ c ≤ 10 ∧ 1 ≤ kind ∧ kind ≤ 3 ∧ l.length ≤ 16 ∧ ∀ x ∈ l, x.blts.length ≤ 64 := by
  unfold recCheck at h
  split at h
  · rename_i hr
    split at h
    · omega
    · rename_i hg
      simp only [not_or, Bool.not_eq_true] at hg
      refine ⟨hr.1, hr.2.1, hr.2.2.1, hr.2.2.2, by omega, fun x hx => ?_⟩
      have := List.any_eq_false.1 hg.2 x hx
      simpa using this
  · omega
theorem Own.one {α : Type} {base : Nat} {e : TypeId} {n : Nat} {dec : World → List Value → α → Prop} {w : World} {g : Nat} {cs : List Value} {x : α} (hg : w.heap[g]? = some (.cells cs.toArray e (0, 0))) (hb : base ≤ g) (hl : cs.length = n) (h : dec w cs x) :
    Own base e n dec w (.slice (some ⟨g, 0, none⟩) 1 1) [x] :=
  ⟨cs, ⟨by simp [hl], .inr ⟨g, 1, cs.toArray, rfl, hb, hg, Nat.le_refl _, by simp [maxLen], by simp [hl], by simp [← hl]⟩⟩, Dec.single hl h⟩
theorem dSep.push1 {w4 w5 : World} {d5 : Value} {b : Blt} {nm : ByteArray} {base : Nat} {v' : Value} (hv : wBlt (Span w4.heap.size w5.heap.size) w5 [.int .u8 b.kind, d5] b) (hnm : nm.size ≤ 140737488355328) (hbase : base ≤ w4.heap.size) (hs : w4.heap.size ≤ w5.heap.size)
    (hv' : ∀ g, v'.ownBlock = some g → g < w4.heap.size) :
    dSep (Rg base ((w5.alloc (.cells #[.int .u8 b.kind, d5] 25)).alloc (.cells #[.string nm, .slice (some ⟨w5.heap.size, 0, none⟩) 1 1] 64)) v') ((w5.alloc (.cells #[.int .u8 b.kind, d5] 25)).alloc (.cells #[.string nm, .slice (some ⟨w5.heap.size, 0, none⟩) 1 1] 64))
      [.string nm, .slice (some ⟨w5.heap.size, 0, none⟩) 1 1] ⟨⟨nm, [b]⟩, w4.heap.size, w5.heap.size + 1⟩ := by
  have hbb : Below w5.heap.size w5 ((w5.alloc (.cells #[.int .u8 b.kind, d5] 25)).alloc (.cells #[.string nm, .slice (some ⟨w5.heap.size, 0, none⟩) 1 1] 64)) := ((Below.refl _ _).alloc (Nat.le_refl _) _).alloc (by simp) _
  refine ⟨fun c h1 h2 => ⟨by simp at h1; omega, by simp at h2 ⊢; omega, fun e => by have := hv' c e.symm; simp at h1; omega⟩, _, rfl, hnm, by simp, fun g hg => by simp [Value.ownBlock] at hg; subst hg; simp, ?_⟩
  refine Own.one (g := w5.heap.size) (cs := [.int .u8 b.kind, d5]) (box_old _ (box_new w5 _)) hs rfl ?_
  refine (wBlt.stable _ _ _ _ _ (.of_below hbb) hv).mono fun c hc => ⟨hc.1, by have := hc.2; simp; omega, fun e => ?_⟩
  have := hc.2
  simp only [Value.ownBlock, Option.some.injEq] at e
  omega

set_option maxHeartbeats 1000000 in
theorem refPut_check (S : Nat → Prop) (v u : Value) (l : List Btc) (c kind : Int) (nm : ByteArray) (b : Blt) (w : World) (h : RBtcs S w v l) (hu : VBlt S w u b) (hc : recCheck l c kind ≠ 0) :
    Calls Try.prog 23 #[v, .int .i64 c, .int .u8 kind, .string nm, u] w (PutGives l c kind nm b w) := by
  obtain ⟨c0, d0, rfl, hB⟩ := hu
  obtain ⟨a0, cap0, rfl, rfl, -, -, -, -⟩ := hB.open
  have hpi : putI l c kind nm b = recCheck l c kind := by rw [putI, if_neg hc]
  have hb0 : Below w.heap.size w (w.alloc (.cells #[.int .u8 b.kind, .slice a0 b.marks.length cap0] 25)) := (Below.refl _ _).alloc (Nat.le_refl _) _
  have HC := Lib.hid (refCheck S v l c kind _ (h.same (.of_below hb0)))
  have hne : (recCheck l c kind != 0) = true := by simp [hc]
  have Hpi := Lib.hid hpi
  have Hc := Lib.hid hc
  clear hc hpi h hB
  go_enter Try.func23, Try.ntmps23
  go_wp2_with (go_at_call 40; refine HC.out.mono ?_; rintro e w1 ⟨rfl, hb1⟩)
  go_ret2
  exact PutGives.none Hpi.out Hc.out (hb0.trans (hb1.mono (by simp)))
set_option maxHeartbeats 1000000 in
theorem refPut_noname (S : Nat → Prop) (v u : Value) (l : List Btc) (c kind : Int) (nm : ByteArray) (b : Blt) (w : World) (h : RBtcs S w v l) (hu : VBlt S w u b) (hnm : nm.size ≤ 140737488355328) (hc : recCheck l c kind = 0) (hn : nameB nm = false) :
    Calls Try.prog 23 #[v, .int .i64 c, .int .u8 kind, .string nm, u] w (PutGives l c kind nm b w) := by
  obtain ⟨c0, d0, rfl, hB⟩ := hu
  obtain ⟨a0, cap0, rfl, rfl, -, -, -, -⟩ := hB.open
  have hb0 : Below w.heap.size w (w.alloc (.cells #[.int .u8 b.kind, .slice a0 b.marks.length cap0] 25)) := (Below.refl _ _).alloc (Nat.le_refl _) _
  have hbx := box_new w (.cells #[.int .u8 b.kind, .slice a0 b.marks.length cap0] 25)
  obtain ⟨hcl, hch, -, -, hl16, hl64⟩ := recCheck_zero hc
  have hC := refCheck S v l c kind _ (h.same (.of_below hb0))
  rw [hc] at hC
  have HC := Lib.hid hC
  have hN : ∀ W, Calls Try.prog 74 #[.string nm] W fun e w' => e = .returned (.bool (nameB nm)) ∧ W = w' := fun W => nameRef nm W hnm
  have hF : ∀ W, Below w.heap.size w W → Calls Try.prog 75 #[.agg #[.int .u8 b.kind, .slice a0 b.marks.length cap0], .int .i64 c, .int .u8 kind] W fun e w' => e = .returned (.bool (fitsB b c kind)) ∧ Below W.heap.size W w' :=
    fun W hW => by rw [fitsB_eq hcl hch]; exact fitsRef S _ b c kind W ⟨_, _, rfl, dBlt.stable S _ _ _ _ (.of_below hW) hB⟩
  have hP : ∀ W, Below w.heap.size w W → Calls Try.prog 76 #[v, .string nm] W fun e w' => e = .returned (.int .i64 (atI l nm)) ∧ W = w' :=
    fun W hW => atRef S v l nm W (h.same (.of_below hW))
  have hpi : putI l c kind nm b = 2 := by rw [putI, if_pos hc, if_neg (by simp [hn])]
  rw [hn] at hN
  have Hpi := Lib.hid hpi
  have HN := Lib.hid hN
  have HF := Lib.hid hF
  have HP := Lib.hid hP
  clear hc hpi h hB hC hN hF hP hn hl64
  go_enter Try.func23, Try.ntmps23
  go_wp2_with (first | (go_at_call 40; refine HC.out.mono ?_; rintro e w1 ⟨rfl, hb1⟩; have hq1 : Below w.heap.size w w1 := hb0.trans (hb1.mono (by simp)); have hs1 := hq1.size; have hbox1 := own_box hb1 (by simp) hbx; obtain ⟨gx1, hcx1, hfx1⟩ := hbox1) | (go_at_call 74; refine (HN.out _).mono ?_; rintro e w2 ⟨rfl, rfl⟩))
  go_ret2
  exact PutGives.none Hpi.out (by decide) hq1
set_option maxHeartbeats 1000000 in
theorem refPut_unfit (S : Nat → Prop) (v u : Value) (l : List Btc) (c kind : Int) (nm : ByteArray) (b : Blt) (w : World) (h : RBtcs S w v l) (hu : VBlt S w u b) (hnm : nm.size ≤ 140737488355328) (hc : recCheck l c kind = 0) (hn : nameB nm = true) (hf : fitsB b c kind = false) :
    Calls Try.prog 23 #[v, .int .i64 c, .int .u8 kind, .string nm, u] w (PutGives l c kind nm b w) := by
  obtain ⟨c0, d0, rfl, hB⟩ := hu
  obtain ⟨a0, cap0, rfl, rfl, -, -, -, -⟩ := hB.open
  have hb0 : Below w.heap.size w (w.alloc (.cells #[.int .u8 b.kind, .slice a0 b.marks.length cap0] 25)) := (Below.refl _ _).alloc (Nat.le_refl _) _
  have hbx := box_new w (.cells #[.int .u8 b.kind, .slice a0 b.marks.length cap0] 25)
  obtain ⟨hcl, hch, -, -, hl16, hl64⟩ := recCheck_zero hc
  have hC := refCheck S v l c kind _ (h.same (.of_below hb0))
  rw [hc] at hC
  have HC := Lib.hid hC
  have hN : ∀ W, Calls Try.prog 74 #[.string nm] W fun e w' => e = .returned (.bool (nameB nm)) ∧ W = w' := fun W => nameRef nm W hnm
  have hF : ∀ W, Below w.heap.size w W → Calls Try.prog 75 #[.agg #[.int .u8 b.kind, .slice a0 b.marks.length cap0], .int .i64 c, .int .u8 kind] W fun e w' => e = .returned (.bool (fitsB b c kind)) ∧ Below W.heap.size W w' :=
    fun W hW => by rw [fitsB_eq hcl hch]; exact fitsRef S _ b c kind W ⟨_, _, rfl, dBlt.stable S _ _ _ _ (.of_below hW) hB⟩
  have hP : ∀ W, Below w.heap.size w W → Calls Try.prog 76 #[v, .string nm] W fun e w' => e = .returned (.int .i64 (atI l nm)) ∧ W = w' :=
    fun W hW => atRef S v l nm W (h.same (.of_below hW))
  have hpi : putI l c kind nm b = 2 := by rw [putI, if_pos hc, if_neg (by simp [hf])]
  rw [hn] at hN
  rw [hf] at hF
  have Hpi := Lib.hid hpi
  have HN := Lib.hid hN
  have HF := Lib.hid hF
  have HP := Lib.hid hP
  clear hc hpi h hB hC hN hF hP hn hf hl64
  go_enter Try.func23, Try.ntmps23
  go_wp2_with (first | (go_at_call 40; refine HC.out.mono ?_; rintro e w1 ⟨rfl, hb1⟩; have hq1 : Below w.heap.size w w1 := hb0.trans (hb1.mono (by simp)); have hs1 := hq1.size; have hbox1 := own_box hb1 (by simp) hbx; obtain ⟨gx1, hcx1, hfx1⟩ := hbox1) | (go_at_call 74; refine (HN.out _).mono ?_; rintro e w2 ⟨rfl, rfl⟩) | (go_at_call 75; refine (HF.out _ hq1).mono ?_; rintro e w3 ⟨rfl, hb3⟩; have hq3 : Below w.heap.size w w3 := hq1.trans (hb3.mono hs1); have hs3 := hq3.size; have hbox3 := own_box hb3 (size_of_box gx1) gx1; obtain ⟨gx3, hcx3, hfx3⟩ := hbox3))
  go_ret2
  exact PutGives.none Hpi.out (by decide) hq3
set_option maxHeartbeats 1000000 in
theorem refPut_full0 (S : Nat → Prop) (v u : Value) (l : List Btc) (c kind : Int) (nm : ByteArray) (b : Blt) (w : World) (h : RBtcs S w v l) (hu : VBlt S w u b) (hnm : nm.size ≤ 140737488355328) (hc : recCheck l c kind = 0) (hsm : Small l) (hn : nameB nm = true) (hf : fitsB b c kind = true) (hi : atI l nm = -1) (hl : l.length = 16) :
    Calls Try.prog 23 #[v, .int .i64 c, .int .u8 kind, .string nm, u] w (PutGives l c kind nm b w) := by
  obtain ⟨c0, d0, rfl, hB⟩ := hu
  obtain ⟨a0, cap0, rfl, rfl, -, -, -, -⟩ := hB.open
  have hb0 : Below w.heap.size w (w.alloc (.cells #[.int .u8 b.kind, .slice a0 b.marks.length cap0] 25)) := (Below.refl _ _).alloc (Nat.le_refl _) _
  have hbx := box_new w (.cells #[.int .u8 b.kind, .slice a0 b.marks.length cap0] 25)
  obtain ⟨hcl, hch, -, -, hl16, hl64⟩ := recCheck_zero hc
  have hC := refCheck S v l c kind _ (h.same (.of_below hb0))
  rw [hc] at hC
  have HC := Lib.hid hC
  have hN : ∀ W, Calls Try.prog 74 #[.string nm] W fun e w' => e = .returned (.bool (nameB nm)) ∧ W = w' := fun W => nameRef nm W hnm
  have hF : ∀ W, Below w.heap.size w W → Calls Try.prog 75 #[.agg #[.int .u8 b.kind, .slice a0 b.marks.length cap0], .int .i64 c, .int .u8 kind] W fun e w' => e = .returned (.bool (fitsB b c kind)) ∧ Below W.heap.size W w' :=
    fun W hW => by rw [fitsB_eq hcl hch]; exact fitsRef S _ b c kind W ⟨_, _, rfl, dBlt.stable S _ _ _ _ (.of_below hW) hB⟩
  have hP : ∀ W, Below w.heap.size w W → Calls Try.prog 76 #[v, .string nm] W fun e w' => e = .returned (.int .i64 (atI l nm)) ∧ W = w' :=
    fun W hW => atRef S v l nm W (h.same (.of_below hW))
  have hT : ∀ W, Below w.heap.size w W → Calls Try.prog 20 #[v] W (fun e w' => ∃ v ys, e = .returned v ∧ Twinned W.heap.size w' v ys ∧ ys.map (·.x) = l ∧ Below W.heap.size W w') :=
    fun W hW => twinRef S v l W (h.same (.of_below hW)) hsm
  have HT := Lib.hid hT
  have hpi : putI l c kind nm b = 9 := by rw [putI, if_pos hc, if_pos (by simp [hn, hf]), if_pos (by rw [fullB, hi]; simp [hl])]
  rw [hn] at hN
  rw [hf] at hF
  rw [hi] at hP
  have Hpi := Lib.hid hpi
  have HN := Lib.hid hN
  have HF := Lib.hid hF
  have HP := Lib.hid hP
  obtain ⟨a, cap, rfl, -, -⟩ := RSl.shape h
  have hge : (16 : Int) ≤ l.length := by omega
  clear hc hpi h hB hC hN hF hP hn hf hl64 hT hi hl hsm
  go_enter Try.func23, Try.ntmps23
  go_wp2_with (first | (go_at_call 40; refine HC.out.mono ?_; rintro e w1 ⟨rfl, hb1⟩; have hq1 : Below w.heap.size w w1 := hb0.trans (hb1.mono (by simp)); have hs1 := hq1.size; have hbox1 := own_box hb1 (by simp) hbx; obtain ⟨gx1, hcx1, hfx1⟩ := hbox1) | (go_at_call 74; refine (HN.out _).mono ?_; rintro e w2 ⟨rfl, rfl⟩) | (go_at_call 75; refine (HF.out _ hq1).mono ?_; rintro e w3 ⟨rfl, hb3⟩; have hq3 : Below w.heap.size w w3 := hq1.trans (hb3.mono hs1); have hs3 := hq3.size; have hbox3 := own_box hb3 (size_of_box gx1) gx1; obtain ⟨gx3, hcx3, hfx3⟩ := hbox3) | (go_at_call 20; refine (HT.out _ hq3).mono ?_; rintro e w4 ⟨v4, ys, rfl, htw, hys, hb4⟩; have hq4 : Below w.heap.size w w4 := hq3.trans (hb4.mono hs3); have hs4 := hq4.size; have hbox4 := own_box hb4 (size_of_box gx3) gx3; obtain ⟨gx4, hcx4, hfx4⟩ := hbox4; obtain ⟨a5, c5, hv4⟩ := htw.1.shape; have hyl : ys.length = l.length := (by rw [← hys]; simp); rw [hyl] at hv4; subst hv4) | (go_at_call 76; refine (HP.out _ hq4).mono ?_; rintro e w5 ⟨rfl, rfl⟩))
  go_ret2
  exact PutGives.none Hpi.out (by decide) hq4
set_option maxHeartbeats 1000000 in
theorem refPut_full1 (S : Nat → Prop) (v u : Value) (l : List Btc) (c kind : Int) (nm : ByteArray) (b : Blt) (w : World) (h : RBtcs S w v l) (hu : VBlt S w u b) (hnm : nm.size ≤ 140737488355328) (hc : recCheck l c kind = 0) (hsm : Small l) (hn : nameB nm = true) (hf : fitsB b c kind = true) (k : Nat) (hk : k < l.length) (hi : atI l nm = k) (hl : l[k].blts.length = 64) :
    Calls Try.prog 23 #[v, .int .i64 c, .int .u8 kind, .string nm, u] w (PutGives l c kind nm b w) := by
  obtain ⟨c0, d0, rfl, hB⟩ := hu
  obtain ⟨a0, cap0, rfl, rfl, -, -, -, -⟩ := hB.open
  have hb0 : Below w.heap.size w (w.alloc (.cells #[.int .u8 b.kind, .slice a0 b.marks.length cap0] 25)) := (Below.refl _ _).alloc (Nat.le_refl _) _
  have hbx := box_new w (.cells #[.int .u8 b.kind, .slice a0 b.marks.length cap0] 25)
  obtain ⟨hcl, hch, -, -, hl16, hl64⟩ := recCheck_zero hc
  have hC := refCheck S v l c kind _ (h.same (.of_below hb0))
  rw [hc] at hC
  have HC := Lib.hid hC
  have hN : ∀ W, Calls Try.prog 74 #[.string nm] W fun e w' => e = .returned (.bool (nameB nm)) ∧ W = w' := fun W => nameRef nm W hnm
  have hF : ∀ W, Below w.heap.size w W → Calls Try.prog 75 #[.agg #[.int .u8 b.kind, .slice a0 b.marks.length cap0], .int .i64 c, .int .u8 kind] W fun e w' => e = .returned (.bool (fitsB b c kind)) ∧ Below W.heap.size W w' :=
    fun W hW => by rw [fitsB_eq hcl hch]; exact fitsRef S _ b c kind W ⟨_, _, rfl, dBlt.stable S _ _ _ _ (.of_below hW) hB⟩
  have hP : ∀ W, Below w.heap.size w W → Calls Try.prog 76 #[v, .string nm] W fun e w' => e = .returned (.int .i64 (atI l nm)) ∧ W = w' :=
    fun W hW => atRef S v l nm W (h.same (.of_below hW))
  have hT : ∀ W, Below w.heap.size w W → Calls Try.prog 20 #[v] W (fun e w' => ∃ v ys, e = .returned v ∧ Twinned W.heap.size w' v ys ∧ ys.map (·.x) = l ∧ Below W.heap.size W w') :=
    fun W hW => twinRef S v l W (h.same (.of_below hW)) hsm
  have HT := Lib.hid hT
  have hpi : putI l c kind nm b = 9 := by rw [putI, if_pos hc, if_pos (by simp [hn, hf]), if_pos (by rw [fullB, hi, if_neg (by omega)]; simp [hk, hl])]
  rw [hn] at hN
  rw [hf] at hF
  rw [hi] at hP
  have Hpi := Lib.hid hpi
  have HN := Lib.hid hN
  have HF := Lib.hid hF
  have HP := Lib.hid hP
  obtain ⟨a, cap, rfl, -, -⟩ := RSl.shape h
  obtain ⟨b', off, c1, d1, rfl, hS, hbw, hcc, hd, hx⟩ := RSl.at2 h k hk
  obtain ⟨a', cap', rfl, rfl, hl1, hl2, hI⟩ := hx.open
  have hge : (64 : Int) ≤ l[k].blts.length := by omega
  clear hc hpi h hB hC hN hF hP hn hf hl64 hT hi hl hsm hcc hx hI
  go_enter Try.func23, Try.ntmps23
  go_wp2_with (first | (go_at_call 40; refine HC.out.mono ?_; rintro e w1 ⟨rfl, hb1⟩; have hq1 : Below w.heap.size w w1 := hb0.trans (hb1.mono (by simp)); have hs1 := hq1.size; have hbox1 := own_box hb1 (by simp) hbx; obtain ⟨gx1, hcx1, hfx1⟩ := hbox1) | (go_at_call 74; refine (HN.out _).mono ?_; rintro e w2 ⟨rfl, rfl⟩) | (go_at_call 75; refine (HF.out _ hq1).mono ?_; rintro e w3 ⟨rfl, hb3⟩; have hq3 : Below w.heap.size w w3 := hq1.trans (hb3.mono hs1); have hs3 := hq3.size; have hbox3 := own_box hb3 (size_of_box gx1) gx1; obtain ⟨gx3, hcx3, hfx3⟩ := hbox3) | (go_at_call 20; refine (HT.out _ hq3).mono ?_; rintro e w4 ⟨v4, ys, rfl, htw, hys, hb4⟩; have hq4 : Below w.heap.size w w4 := hq3.trans (hb4.mono hs3); have hs4 := hq4.size; have hbox4 := own_box hb4 (size_of_box gx3) gx3; obtain ⟨gx4, hcx4, hfx4⟩ := hbox4; obtain ⟨a5, c5, hv4⟩ := htw.1.shape; have hyl : ys.length = l.length := (by rw [← hys]; simp); rw [hyl] at hv4; subst hv4; have hd4 := (Same.of_below (S := Any) hq4).cell trivial hd) | (go_at_call 76; refine (HP.out _ hq4).mono ?_; rintro e w5 ⟨rfl, rfl⟩))
  go_ret2
  exact PutGives.none Hpi.out (by decide) hq4
set_option maxHeartbeats 2000000 in
set_option maxRecDepth 100000 in
theorem refPut_grow (S : Nat → Prop) (v u : Value) (l : List Btc) (c kind : Int) (nm : ByteArray) (b : Blt) (w : World) (h : RBtcs S w v l) (hu : VBlt S w u b) (hnm : nm.size ≤ 140737488355328) (hc : recCheck l c kind = 0) (hsm : Small l) (hmk : b.marks.length ≤ 1000000) (hn : nameB nm = true) (hf : fitsB b c kind = true) (k : Nat) (hk : k < l.length) (hi : atI l nm = k) (hl : l[k].blts.length ≠ 64) :
    Calls Try.prog 23 #[v, .int .i64 c, .int .u8 kind, .string nm, u] w (PutGives l c kind nm b w) := by
  obtain ⟨c0, d0, rfl, hB⟩ := hu
  obtain ⟨a0, cap0, rfl, rfl, -, -, -, -⟩ := hB.open
  have hb0 : Below w.heap.size w (w.alloc (.cells #[.int .u8 b.kind, .slice a0 b.marks.length cap0] 25)) := (Below.refl _ _).alloc (Nat.le_refl _) _
  have hbx := box_new w (.cells #[.int .u8 b.kind, .slice a0 b.marks.length cap0] 25)
  obtain ⟨hcl, hch, -, -, hl16, hl64⟩ := recCheck_zero hc
  have hC := refCheck S v l c kind _ (h.same (.of_below hb0))
  rw [hc] at hC
  have HC := Lib.hid hC
  have hN : ∀ W, Calls Try.prog 74 #[.string nm] W fun e w' => e = .returned (.bool (nameB nm)) ∧ W = w' := fun W => nameRef nm W hnm
  have hF : ∀ W, Below w.heap.size w W → Calls Try.prog 75 #[.agg #[.int .u8 b.kind, .slice a0 b.marks.length cap0], .int .i64 c, .int .u8 kind] W fun e w' => e = .returned (.bool (fitsB b c kind)) ∧ Below W.heap.size W w' :=
    fun W hW => by rw [fitsB_eq hcl hch]; exact fitsRef S _ b c kind W ⟨_, _, rfl, dBlt.stable S _ _ _ _ (.of_below hW) hB⟩
  have hP : ∀ W, Below w.heap.size w W → Calls Try.prog 76 #[v, .string nm] W fun e w' => e = .returned (.int .i64 (atI l nm)) ∧ W = w' :=
    fun W hW => atRef S v l nm W (h.same (.of_below hW))
  have hT : ∀ W, Below w.heap.size w W → Calls Try.prog 20 #[v] W (fun e w' => ∃ v ys, e = .returned v ∧ Twinned W.heap.size w' v ys ∧ ys.map (·.x) = l ∧ Below W.heap.size W w') :=
    fun W hW => twinRef S v l W (h.same (.of_below hW)) hsm
  have HT := Lib.hid hT
  have hCp : ∀ W, Below w.heap.size w W → Calls Try.prog 21 #[.agg #[.int .u8 b.kind, .slice a0 b.marks.length cap0]] W fun e w' => ∃ d, e = .returned (.agg #[.int .u8 b.kind, d]) ∧ wBlt (Span W.heap.size w'.heap.size) w' [.int .u8 b.kind, d] b ∧ Below W.heap.size W w' :=
    fun W hW => copyRef2 S _ b W ⟨_, _, rfl, dBlt.stable S _ _ _ _ (.of_below hW) hB⟩ (by omega)
  have HCp := Lib.hid hCp
  have hpi : putI l c kind nm b = 0 := by rw [putI, if_pos hc, if_pos (by simp [hn, hf]), if_neg (by rw [fullB, hi, if_neg (by omega)]; simp [hk, hl])]
  have hpL : putL l c kind nm b = l.modify k (grow1 b) := by rw [putL, if_pos hpi, put1, hi, if_neg (by omega)]; rfl
  rw [hn] at hN
  rw [hf] at hF
  rw [hi] at hP
  have Hpi := Lib.hid hpi
  have HN := Lib.hid hN
  have HF := Lib.hid hF
  have HP := Lib.hid hP
  have HpL := Lib.hid hpL
  obtain ⟨a, cap, rfl, -, -⟩ := RSl.shape h
  obtain ⟨b', off, c1, d1, rfl, hS, hbw, hcc, hd, hx⟩ := RSl.at2 h k hk
  obtain ⟨a', cap', rfl, rfl, hl1, hl2, hI⟩ := hx.open
  have hsl : l[k].blts.length ≤ 1000000 := (hsm.2 _ (List.getElem_mem hk)).1
  have hsl2 : l.length ≤ 1000000 := hsm.1
  have hlt64 : l[k].blts.length < 64 := by have := hl64 _ (List.getElem_mem hk); omega
  clear hc hpi hpL h hB hC hN hF hP hn hf hl64 hT hCp hi hl hsm hcc hx hI
  go_enter Try.func23, Try.ntmps23
  go_wp2_with (first | (go_at_call 40; refine HC.out.mono ?_; rintro e w1 ⟨rfl, hb1⟩; have hq1 : Below w.heap.size w w1 := hb0.trans (hb1.mono (by simp)); have hs1 := hq1.size; have hbox1 := own_box hb1 (by simp) hbx; obtain ⟨gx1, hcx1, hfx1⟩ := hbox1) | (go_at_call 74; refine (HN.out _).mono ?_; rintro e w2 ⟨rfl, rfl⟩) | (go_at_call 75; refine (HF.out _ hq1).mono ?_; rintro e w3 ⟨rfl, hb3⟩; have hq3 : Below w.heap.size w w3 := hq1.trans (hb3.mono hs1); have hs3 := hq3.size; have hbox3 := own_box hb3 (size_of_box gx1) gx1; obtain ⟨gx3, hcx3, hfx3⟩ := hbox3) | (go_at_call 20; refine (HT.out _ hq3).mono ?_; rintro e w4 ⟨v4, ys, rfl, htw, hys, hb4⟩; have hq4 : Below w.heap.size w w4 := hq3.trans (hb4.mono hs3); have hs4 := hq4.size; have hbox4 := own_box hb4 (size_of_box gx3) gx3; obtain ⟨gx4, hcx4, hfx4⟩ := hbox4; obtain ⟨a5, c5, hv4⟩ := htw.1.shape; have hyl : ys.length = l.length := (by rw [← hys]; simp); rw [hyl] at hv4; subst hv4; have hd4 := (Same.of_below (S := Any) hq4).cell trivial hd) | (go_at_call 76; refine (HP.out _ hq4).mono ?_; rintro e w5 ⟨rfl, rfl⟩))
  obtain ⟨zs, hzs⟩ : ∃ zs, zs = ys := ⟨_, rfl⟩
  subst hzs
  have hkz : k < zs.length := by omega
  have hzk : zs[k].x = l[k] := by
    have := congrArg (fun q => q[k]?) hys
    simpa [hkz, hk] using this
  have Hlist : RowKit.Hid ((zs.map (·.x)).modify k (grow1 b) = l.modify k (grow1 b)) := by rw [hys]; exact rfl
  have hl2W : zs[k].x.blts.length ≤ 1000000 := by rw [hzk]; exact hsl
  have hqW := hq4
  have htwW := htw
  clear htw hys hzk
  have hsW := hqW.size
  have hkz' : ((k : Nat) : Int) < zs.length := by omega
  obtain ⟨g, d, rfl, hg1, hg2, hc5, hd5, hf5, hn5, hl5, hdo, hhi, hlo, hng, hsh, hown⟩ := htwW.at hkz
  obtain ⟨a2, c2, hd2⟩ := hsh
  obtain ⟨n2, hn2⟩ : ∃ n, n = zs[k].x.blts.length := ⟨_, rfl⟩
  rw [← hn2] at hd2
  clear hn2
  subst hd2
  have hgne : some g ≠ (Value.slice a2 n2 c2).ownBlock := fun e => by have := hdo g e.symm; exact hng g this.1 this.2 rfl
  have hA : ∀ (w8 : World) (d6 : Value), wBlt (Span w4.drew.heap.size w8.heap.size) w8 [.int .u8 b.kind, d6] b → Below w4.drew.heap.size w4.drew w8 →
      Own zs[k].lo 25 2 (wBlt (Gr zs[k] (.slice a2 n2 c2) w4.heap.size w8.heap.size)) (w8.alloc (.cells #[.int .u8 b.kind, d6] 25)) (.slice a2 n2 c2) zs[k].x.blts ∧
      RSl (From 0) 2 (wBlt (Gr zs[k] (.slice a2 n2 c2) w4.heap.size w8.heap.size)) (w8.alloc (.cells #[.int .u8 b.kind, d6] 25)) (.slice (some ⟨w8.heap.size, 0, none⟩) 1 1) [b] ∧
      (zs[k].x.blts.length + [b].length) * 32 ≤ 140737488355328 ∧ zs[k].lo ≤ (w8.alloc (.cells #[.int .u8 b.kind, d6] 25)).heap.size := by
    intro w8 d6 hv6 hb6
    refine ⟨Gr.old hown ((Below.drew (Below.refl _ _)).trans hb6) _ _ _, RSl.built (Nat.zero_le _) (box_new w8 (.cells #[.int .u8 b.kind, d6] 25)) rfl (Gr.new (w := w4) hv6 _), by simp; omega, ?_⟩
    have := hb6.size; simp at this ⊢; omega
  have HA := Lib.hid hA; clear hA hown
  have Hgne := Lib.hid hgne; clear hgne
  have Hng := Lib.hid hng; clear hng
  have Hdo := Lib.hid hdo; clear hdo
  have hfk := hf5 (k * 2 + 1)
  clear hf5
  have HtwW := Lib.hid htwW; clear htwW
  have h72 := Lib.hid hl2W
  clear hl2W
  go_region_law (first | (refine step_appV _ Try.infoBlt rfl rfl Try.underlying62 ⟨rfl, by omega, by omega⟩ (wBlt.one (Gr zs[k] (.slice a2 n2 c2) w4.heap.size w8.heap.size)) (wBlt.stable (Gr zs[k] (.slice a2 n2 c2) w4.heap.size w8.heap.size)) zs[k].lo (HA.out w8 d6 hv6 hb6).1 rfl (HA.out w8 d6 hv6 hb6).2.1 rfl (HA.out w8 d6 hv6 hb6).2.2.1 (HA.out w8 d6 hv6 hb6).2.2.2 ?_; intro a' n' c' w9 hgr hob hO; have hk7 := keeps_cell hg2 Hgne.out ((Below.drew (Below.refl _ _)).trans hb6) hgr hd5 hfk; obtain ⟨k71, k72⟩ := hk7) | (go_simp; go_at_call 21; refine (HCp.out _ (hqW.trans ((Below.drew (Below.refl _ _)).mono hsW))).mono ?_; rintro e w8 ⟨d6, rfl, hv6, hb6⟩; have hd56 := (Same.of_below (S := Any) hb6).cell trivial hd5; have hgw6 : g < w8.heap.size := (by have := hb6.size; simp at this; omega)))
  all_goals
    go_wp2
    go_ret2
    have hb7 : Below w4.heap.size w4 w8 := (Below.drew (Below.refl _ _)).trans hb6
    have hres := HtwW.out.grow (o := .cells #[.int .u8 b.kind, d6] 25) hkz (by omega) (by have := h72.out; omega) hd5 hb7 hgr hob (hO (Gr.same hgr hb7 (fun b hb => by have := Hdo.out b hb; omega)))
    refine PutGives.some Hpi.out (HpL.out.trans Hlist.out.symm) hres (by omega) ?_
    exact (((hqW.trans (hb7.mono hsW)).alloc (by have := hb7.size; omega) _).grown hgr (by simp; have := hb7.size; omega) (fun b hb => by have := Hdo.out b hb; omega)).setCell (p := ⟨g, k * 2 + 1, none⟩) (by show w.heap.size ≤ g; omega) _

set_option maxHeartbeats 2000000 in
set_option maxRecDepth 100000 in
theorem refPut_push (S : Nat → Prop) (v u : Value) (l : List Btc) (c kind : Int) (nm : ByteArray) (b : Blt) (w : World) (h : RBtcs S w v l) (hu : VBlt S w u b) (hnm : nm.size ≤ 140737488355328) (hc : recCheck l c kind = 0) (hsm : Small l) (hmk : b.marks.length ≤ 1000000) (hn : nameB nm = true) (hf : fitsB b c kind = true) (hi : atI l nm = -1) (hl : l.length ≠ 16) :
    Calls Try.prog 23 #[v, .int .i64 c, .int .u8 kind, .string nm, u] w (PutGives l c kind nm b w) := by
  obtain ⟨c0, d0, rfl, hB⟩ := hu
  obtain ⟨a0, cap0, rfl, rfl, -, -, -, -⟩ := hB.open
  have hb0 : Below w.heap.size w (w.alloc (.cells #[.int .u8 b.kind, .slice a0 b.marks.length cap0] 25)) := (Below.refl _ _).alloc (Nat.le_refl _) _
  have hbx := box_new w (.cells #[.int .u8 b.kind, .slice a0 b.marks.length cap0] 25)
  obtain ⟨hcl, hch, -, -, hl16, hl64⟩ := recCheck_zero hc
  have hC := refCheck S v l c kind _ (h.same (.of_below hb0))
  rw [hc] at hC
  have HC := Lib.hid hC
  have hN : ∀ W, Calls Try.prog 74 #[.string nm] W fun e w' => e = .returned (.bool (nameB nm)) ∧ W = w' := fun W => nameRef nm W hnm
  have hF : ∀ W, Below w.heap.size w W → Calls Try.prog 75 #[.agg #[.int .u8 b.kind, .slice a0 b.marks.length cap0], .int .i64 c, .int .u8 kind] W fun e w' => e = .returned (.bool (fitsB b c kind)) ∧ Below W.heap.size W w' :=
    fun W hW => by rw [fitsB_eq hcl hch]; exact fitsRef S _ b c kind W ⟨_, _, rfl, dBlt.stable S _ _ _ _ (.of_below hW) hB⟩
  have hP : ∀ W, Below w.heap.size w W → Calls Try.prog 76 #[v, .string nm] W fun e w' => e = .returned (.int .i64 (atI l nm)) ∧ W = w' :=
    fun W hW => atRef S v l nm W (h.same (.of_below hW))
  have hT : ∀ W, Below w.heap.size w W → Calls Try.prog 20 #[v] W (fun e w' => ∃ v ys, e = .returned v ∧ Twinned W.heap.size w' v ys ∧ ys.map (·.x) = l ∧ Below W.heap.size W w') :=
    fun W hW => twinRef S v l W (h.same (.of_below hW)) hsm
  have HT := Lib.hid hT
  have hCp : ∀ W, Below w.heap.size w W → Calls Try.prog 21 #[.agg #[.int .u8 b.kind, .slice a0 b.marks.length cap0]] W fun e w' => ∃ d, e = .returned (.agg #[.int .u8 b.kind, d]) ∧ wBlt (Span W.heap.size w'.heap.size) w' [.int .u8 b.kind, d] b ∧ Below W.heap.size W w' :=
    fun W hW => copyRef2 S _ b W ⟨_, _, rfl, dBlt.stable S _ _ _ _ (.of_below hW) hB⟩ (by omega)
  have HCp := Lib.hid hCp
  have hpi : putI l c kind nm b = 0 := by rw [putI, if_pos hc, if_pos (by simp [hn, hf]), if_neg (by rw [fullB, hi, if_pos (by omega)]; simp [hl])]
  have hpL : putL l c kind nm b = l ++ [⟨nm, [b]⟩] := by rw [putL, if_pos hpi, put1, hi, if_pos (by omega)]
  rw [hn] at hN
  rw [hf] at hF
  rw [hi] at hP
  have Hpi := Lib.hid hpi
  have HN := Lib.hid hN
  have HF := Lib.hid hF
  have HP := Lib.hid hP
  have HpL := Lib.hid hpL
  obtain ⟨a, cap, rfl, -, -⟩ := RSl.shape h
  have hlt16 : (l.length : Int) < 16 := by omega
  clear hc hpi hpL h hB hC hN hF hP hn hf hl64 hT hCp hi hl hsm
  go_enter Try.func23, Try.ntmps23
  go_wp2_with (first | (go_at_call 40; refine HC.out.mono ?_; rintro e w1 ⟨rfl, hb1⟩; have hq1 : Below w.heap.size w w1 := hb0.trans (hb1.mono (by simp)); have hs1 := hq1.size; have hbox1 := own_box hb1 (by simp) hbx; obtain ⟨gx1, hcx1, hfx1⟩ := hbox1) | (go_at_call 74; refine (HN.out _).mono ?_; rintro e w2 ⟨rfl, rfl⟩) | (go_at_call 75; refine (HF.out _ hq1).mono ?_; rintro e w3 ⟨rfl, hb3⟩; have hq3 : Below w.heap.size w w3 := hq1.trans (hb3.mono hs1); have hs3 := hq3.size; have hbox3 := own_box hb3 (size_of_box gx1) gx1; obtain ⟨gx3, hcx3, hfx3⟩ := hbox3) | (go_at_call 20; refine (HT.out _ hq3).mono ?_; rintro e w4 ⟨v4, ys, rfl, htw, hys, hb4⟩; have hq4 : Below w.heap.size w w4 := hq3.trans (hb4.mono hs3); have hs4 := hq4.size; have hbox4 := own_box hb4 (size_of_box gx3) gx3; obtain ⟨gx4, hcx4, hfx4⟩ := hbox4; obtain ⟨a5, c5, hv4⟩ := htw.1.shape; have hyl : ys.length = l.length := (by rw [← hys]; simp); rw [hyl] at hv4; subst hv4) | (go_at_call 76; refine (HP.out _ hq4).mono ?_; rintro e w5 ⟨rfl, rfl⟩) | (go_at_call 21; refine (HCp.out _ hq4).mono ?_; rintro e w6 ⟨d6, rfl, hv6, hb6⟩; have hs6 := hb6.size) | (at_builtin; go_must (refine wpList_appX _ Try.infoBtc rfl rfl Try.underlying22 ⟨rfl, by omega, by omega⟩ famSep w3.heap.size (htw.below ((hb6.alloc hs6 (.cells #[.int .u8 b.kind, d6] 25)).alloc (by simp; omega) (.cells #[.string nm, .slice (some ⟨w6.heap.size, 0, none⟩) 1 1] 64))).1 rfl (g := (w6.alloc (.cells #[.int .u8 b.kind, d6] 25)).heap.size) (cs := [.string nm, .slice (some ⟨w6.heap.size, 0, none⟩) 1 1]) (y := ⟨⟨nm, [b]⟩, w4.heap.size, w6.heap.size + 1⟩) (box_new _ _) rfl (dSep.push1 hv6 hnm hb4.size hs6 (fun g hg => (htw.1.lt g hg).2)) (by simp [go_sem]) (by omega) (by have := hb4.size; simp; omega) ?_); go_must (intro a' n' c' w7 hgr7 hO7)))
  go_ret2
  have hs7 : w6.heap.size + 2 ≤ w7.heap.size := by have := hgr7.size; simpa using this
  have hb4s := hb4.size
  have htw7 : Twinned w3.heap.size w7 (.slice a' n' c') (ys ++ [⟨⟨nm, [b]⟩, w4.heap.size, w6.heap.size + 1⟩]) :=
    Twinned.push htw.2.1 (fun z hz => by have := htw.2.2 z hz; simp; omega) ⟨by simp; omega, by simp; omega, by simp; omega⟩ hO7
  have hres := htw7.wsl (by simp; omega)
  have hm : (ys ++ [(⟨⟨nm, [b]⟩, w4.heap.size, w6.heap.size + 1⟩ : Sp)]).map (·.x) = l ++ [⟨nm, [b]⟩] := by rw [List.map_append, hys]; rfl
  rw [hm] at hres
  refine PutGives.some (base := w3.heap.size) Hpi.out HpL.out (WSl.mono (fun _ _ _ hh => hh.mono fun c hc => hc.1) (fun c hc => hc.1) hres) hs3 ?_
  exact (((hq4.trans (hb6.mono hs4)).alloc (by omega) _).alloc (by simp; omega) _).grown hgr7 (by simp; omega) (fun g hg => by have := (htw.1.lt g hg).1; omega)
theorem refPut (S : Nat → Prop) (v u : Value) (l : List Btc) (c kind : Int) (nm : ByteArray) (b : Blt) (w : World) (h : RBtcs S w v l) (hu : VBlt S w u b) (hnm : nm.size ≤ 140737488355328) (hsm : Small l) (hmk : b.marks.length ≤ 1000000) :
    Calls Try.prog 23 #[v, .int .i64 c, .int .u8 kind, .string nm, u] w (PutGives l c kind nm b w) := by
  by_cases hc : recCheck l c kind = 0
  · cases hn : nameB nm
    · exact refPut_noname S v u l c kind nm b w h hu hnm hc hn
    · cases hf : fitsB b c kind
      · exact refPut_unfit S v u l c kind nm b w h hu hnm hc hn hf
      · by_cases hi : atI l nm < 0
        · have hi' : atI l nm = -1 := by have : -1 ≤ atI l nm := idxB_ge _ _; omega
          by_cases hl : l.length = 16
          · exact refPut_full0 S v u l c kind nm b w h hu hnm hc hsm hn hf hi' hl
          · exact refPut_push S v u l c kind nm b w h hu hnm hc hsm hmk hn hf hi' hl
        · have hlt : atI l nm < l.length := idxB_lt _ _
          obtain ⟨k, hk⟩ := Int.eq_ofNat_of_zero_le (a := atI l nm) (by omega)
          have hkl : k < l.length := by omega
          by_cases hl : l[k].blts.length = 64
          · exact refPut_full1 S v u l c kind nm b w h hu hnm hc hsm hn hf k hkl hk hl
          · exact refPut_grow S v u l c kind nm b w h hu hnm hc hsm hmk hn hf k hkl hk hl
  · exact refPut_check S v u l c kind nm b w h hu hc
end Go.Proofs.Ytkjgddcjhikdgaa
