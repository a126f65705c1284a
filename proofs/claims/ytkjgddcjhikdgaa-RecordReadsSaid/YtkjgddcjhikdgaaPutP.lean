/- The contract of record.Put: one theorem for each way it goes. Printed by wip/tools/putp.py. -/
import Derived.Test.YtkjgddcjhikdgaaPutG
namespace Go.Proofs.Ytkjgddcjhikdgaa
open Go Go.RowKit

set_option maxHeartbeats 1000000 in
theorem put_check (S : Nat → Prop) (v u : Value) (l : List Btc) (c kind : Int) (nm : ByteArray) (b : Blt) (w : World) (h : RBtcs S w v l) (hu : VBlt S w u b) (hc : recCheck l c kind ≠ 0) :
    Calls Try.prog 22 #[v, .int .i64 c, .int .u8 kind, .string nm, u] w (PutGives l c kind nm b w) := by
  obtain ⟨c0, d0, rfl, hB⟩ := hu
  obtain ⟨a0, cap0, rfl, rfl, -, -, -, -⟩ := hB.open
  have hpi : putI l c kind nm b = recCheck l c kind := by rw [putI, if_neg hc]
  have hb0 : Below w.heap.size w (w.alloc (.cells #[.int .u8 b.kind, .slice a0 b.marks.length cap0] 25)) := (Below.refl _ _).alloc (Nat.le_refl _) _
  have HC := Lib.hid (recordCheck S v l c kind _ (h.same (.of_below hb0)))
  have hne : (recCheck l c kind != 0) = true := by simp [hc]
  have Hpi := Lib.hid hpi
  have Hc := Lib.hid hc
  clear hc hpi h hB
  go_enter Try.func22, Try.ntmps22
  go_wp2_with (go_at_call 39; refine HC.out.mono ?_; rintro e w1 ⟨rfl, hb1⟩)
  go_ret2
  exact PutGives.none Hpi.out Hc.out (hb0.trans (hb1.mono (by simp)))
set_option maxHeartbeats 1000000 in
theorem put_noname (S : Nat → Prop) (v u : Value) (l : List Btc) (c kind : Int) (nm : ByteArray) (b : Blt) (w : World) (h : RBtcs S w v l) (hu : VBlt S w u b) (hnm : nm.size ≤ 140737488355328) (hc : recCheck l c kind = 0) (hn : nameB nm = false) :
    Calls Try.prog 22 #[v, .int .i64 c, .int .u8 kind, .string nm, u] w (PutGives l c kind nm b w) := by
  obtain ⟨c0, d0, rfl, hB⟩ := hu
  obtain ⟨a0, cap0, rfl, rfl, -, -, -, -⟩ := hB.open
  have hb0 : Below w.heap.size w (w.alloc (.cells #[.int .u8 b.kind, .slice a0 b.marks.length cap0] 25)) := (Below.refl _ _).alloc (Nat.le_refl _) _
  have hbx := box_new w (.cells #[.int .u8 b.kind, .slice a0 b.marks.length cap0] 25)
  have hC := recordCheck S v l c kind _ (h.same (.of_below hb0))
  rw [hc] at hC
  have HC := Lib.hid hC
  have hM : ∀ W, Calls Try.prog 70 #[.agg #[.string nm, .slice none 0 0, .int .i64 c, .int .u8 kind]] W fun e w' => e = .returned (.bool (nameB nm)) ∧ Below W.heap.size W w' := fun W => by
    have := may (fun _ => False) (.string nm) (.slice none 0 0) ⟨nm, []⟩ c kind W ⟨_, rfl, hnm, RSl.nil⟩
    simpa [mayB] using this
  have hF : ∀ W, Below w.heap.size w W → Calls Try.prog 71 #[.agg #[.string nm, .slice none 0 0, .int .i64 c, .int .u8 kind], .agg #[.int .u8 b.kind, .slice a0 b.marks.length cap0]] W fun e w' => e = .returned (.bool (fitsB b c kind)) ∧ Below W.heap.size W w' :=
    fun W hW => fits S _ _ _ b c kind W ⟨_, _, rfl, dBlt.stable S _ _ _ _ (.of_below hW) hB⟩
  have hP : ∀ W, Below w.heap.size w W → Calls Try.prog 72 #[v, .string nm] W fun e w' => e = .returned (.int .i64 (atI l nm)) ∧ Below W.heap.size W w' :=
    fun W hW => place S v l nm W (h.same (.of_below hW))
  have hpi : putI l c kind nm b = 2 := by rw [putI, if_pos hc, if_neg (by simp [hn])]
  rw [hn] at hM
  have Hpi := Lib.hid hpi
  have HM := Lib.hid hM
  clear hc hpi h hB hC hM hF hP hn
  go_enter Try.func22, Try.ntmps22
  go_wp2_with (first | (go_at_call 39; refine HC.out.mono ?_; rintro e w1 ⟨rfl, hb1⟩; have hq1 : Below w.heap.size w w1 := hb0.trans (hb1.mono (by simp)); have hs1 := hq1.size; have hbox1 := own_box hb1 (by simp) hbx; obtain ⟨gx1, hcx1, hfx1⟩ := hbox1) | (go_at_call 70; refine (HM.out _).mono ?_; rintro e w2 ⟨rfl, hb2⟩; have hq2 : Below w.heap.size w w2 := (hq1.alloc hs1 _).trans (hb2.mono (by simp; omega)); have hs2 := hq2.size; have hbox2 := own_box hb2 (by simp; have := size_of_box gx1; omega) (box_old _ gx1); obtain ⟨gx2, hcx2, hfx2⟩ := hbox2; have hbox2' := own_box hb2 (by simp) (box_new w1 _); obtain ⟨gr2, hcr2, hfr2⟩ := hbox2'))
  go_ret2
  exact PutGives.none Hpi.out (by decide) hq2
set_option maxHeartbeats 1000000 in
theorem put_unfit (S : Nat → Prop) (v u : Value) (l : List Btc) (c kind : Int) (nm : ByteArray) (b : Blt) (w : World) (h : RBtcs S w v l) (hu : VBlt S w u b) (hnm : nm.size ≤ 140737488355328) (hc : recCheck l c kind = 0) (hn : nameB nm = true) (hf : fitsB b c kind = false) :
    Calls Try.prog 22 #[v, .int .i64 c, .int .u8 kind, .string nm, u] w (PutGives l c kind nm b w) := by
  obtain ⟨c0, d0, rfl, hB⟩ := hu
  obtain ⟨a0, cap0, rfl, rfl, -, -, -, -⟩ := hB.open
  have hb0 : Below w.heap.size w (w.alloc (.cells #[.int .u8 b.kind, .slice a0 b.marks.length cap0] 25)) := (Below.refl _ _).alloc (Nat.le_refl _) _
  have hbx := box_new w (.cells #[.int .u8 b.kind, .slice a0 b.marks.length cap0] 25)
  have hC := recordCheck S v l c kind _ (h.same (.of_below hb0))
  rw [hc] at hC
  have HC := Lib.hid hC
  have hM : ∀ W, Calls Try.prog 70 #[.agg #[.string nm, .slice none 0 0, .int .i64 c, .int .u8 kind]] W fun e w' => e = .returned (.bool (nameB nm)) ∧ Below W.heap.size W w' := fun W => by
    have := may (fun _ => False) (.string nm) (.slice none 0 0) ⟨nm, []⟩ c kind W ⟨_, rfl, hnm, RSl.nil⟩
    simpa [mayB] using this
  have hF : ∀ W, Below w.heap.size w W → Calls Try.prog 71 #[.agg #[.string nm, .slice none 0 0, .int .i64 c, .int .u8 kind], .agg #[.int .u8 b.kind, .slice a0 b.marks.length cap0]] W fun e w' => e = .returned (.bool (fitsB b c kind)) ∧ Below W.heap.size W w' :=
    fun W hW => fits S _ _ _ b c kind W ⟨_, _, rfl, dBlt.stable S _ _ _ _ (.of_below hW) hB⟩
  have hP : ∀ W, Below w.heap.size w W → Calls Try.prog 72 #[v, .string nm] W fun e w' => e = .returned (.int .i64 (atI l nm)) ∧ Below W.heap.size W w' :=
    fun W hW => place S v l nm W (h.same (.of_below hW))
  have hpi : putI l c kind nm b = 2 := by rw [putI, if_pos hc, if_neg (by simp [hf])]
  rw [hn] at hM
  rw [hf] at hF
  have Hpi := Lib.hid hpi
  have HM := Lib.hid hM
  have HF := Lib.hid hF
  clear hc hpi h hB hC hM hF hP hn hf
  go_enter Try.func22, Try.ntmps22
  go_wp2_with (first | (go_at_call 39; refine HC.out.mono ?_; rintro e w1 ⟨rfl, hb1⟩; have hq1 : Below w.heap.size w w1 := hb0.trans (hb1.mono (by simp)); have hs1 := hq1.size; have hbox1 := own_box hb1 (by simp) hbx; obtain ⟨gx1, hcx1, hfx1⟩ := hbox1) | (go_at_call 70; refine (HM.out _).mono ?_; rintro e w2 ⟨rfl, hb2⟩; have hq2 : Below w.heap.size w w2 := (hq1.alloc hs1 _).trans (hb2.mono (by simp; omega)); have hs2 := hq2.size; have hbox2 := own_box hb2 (by simp; have := size_of_box gx1; omega) (box_old _ gx1); obtain ⟨gx2, hcx2, hfx2⟩ := hbox2; have hbox2' := own_box hb2 (by simp) (box_new w1 _); obtain ⟨gr2, hcr2, hfr2⟩ := hbox2') | (go_at_call 71; refine (HF.out _ hq2).mono ?_; rintro e w3 ⟨rfl, hb3⟩; have hq3 : Below w.heap.size w w3 := hq2.trans (hb3.mono hs2); have hs3 := hq3.size; have hbox3 := own_box hb3 (size_of_box gx2) gx2; obtain ⟨gx3, hcx3, hfx3⟩ := hbox3; have hbox3' := own_box hb3 (size_of_box gr2) gr2; obtain ⟨gr3, hcr3, hfr3⟩ := hbox3'))
  go_ret2
  exact PutGives.none Hpi.out (by decide) hq3
set_option maxHeartbeats 1000000 in
theorem put_full0 (S : Nat → Prop) (v u : Value) (l : List Btc) (c kind : Int) (nm : ByteArray) (b : Blt) (w : World) (h : RBtcs S w v l) (hu : VBlt S w u b) (hnm : nm.size ≤ 140737488355328) (hc : recCheck l c kind = 0) (hn : nameB nm = true) (hf : fitsB b c kind = true) (hi : atI l nm = -1) (hl : l.length = 16) :
    Calls Try.prog 22 #[v, .int .i64 c, .int .u8 kind, .string nm, u] w (PutGives l c kind nm b w) := by
  obtain ⟨c0, d0, rfl, hB⟩ := hu
  obtain ⟨a0, cap0, rfl, rfl, -, -, -, -⟩ := hB.open
  have hb0 : Below w.heap.size w (w.alloc (.cells #[.int .u8 b.kind, .slice a0 b.marks.length cap0] 25)) := (Below.refl _ _).alloc (Nat.le_refl _) _
  have hbx := box_new w (.cells #[.int .u8 b.kind, .slice a0 b.marks.length cap0] 25)
  have hC := recordCheck S v l c kind _ (h.same (.of_below hb0))
  rw [hc] at hC
  have HC := Lib.hid hC
  have hM : ∀ W, Calls Try.prog 70 #[.agg #[.string nm, .slice none 0 0, .int .i64 c, .int .u8 kind]] W fun e w' => e = .returned (.bool (nameB nm)) ∧ Below W.heap.size W w' := fun W => by
    have := may (fun _ => False) (.string nm) (.slice none 0 0) ⟨nm, []⟩ c kind W ⟨_, rfl, hnm, RSl.nil⟩
    simpa [mayB] using this
  have hF : ∀ W, Below w.heap.size w W → Calls Try.prog 71 #[.agg #[.string nm, .slice none 0 0, .int .i64 c, .int .u8 kind], .agg #[.int .u8 b.kind, .slice a0 b.marks.length cap0]] W fun e w' => e = .returned (.bool (fitsB b c kind)) ∧ Below W.heap.size W w' :=
    fun W hW => fits S _ _ _ b c kind W ⟨_, _, rfl, dBlt.stable S _ _ _ _ (.of_below hW) hB⟩
  have hP : ∀ W, Below w.heap.size w W → Calls Try.prog 72 #[v, .string nm] W fun e w' => e = .returned (.int .i64 (atI l nm)) ∧ Below W.heap.size W w' :=
    fun W hW => place S v l nm W (h.same (.of_below hW))
  have hpi : putI l c kind nm b = 9 := by rw [putI, if_pos hc, if_pos (by simp [hn, hf]), if_pos (by rw [fullB, hi]; simp [hl])]
  rw [hn] at hM
  rw [hf] at hF
  rw [hi] at hP
  have Hpi := Lib.hid hpi
  have HM := Lib.hid hM
  have HF := Lib.hid hF
  have HP := Lib.hid hP
  obtain ⟨a, cap, rfl, -, -⟩ := RSl.shape h
  have hl' : ((l.length : Int) == 16) = true := by simp; omega
  clear hc hpi h hB hC hM hF hP hn hf hi hl
  go_enter Try.func22, Try.ntmps22
  go_wp2_with (first | (go_at_call 39; refine HC.out.mono ?_; rintro e w1 ⟨rfl, hb1⟩; have hq1 : Below w.heap.size w w1 := hb0.trans (hb1.mono (by simp)); have hs1 := hq1.size; have hbox1 := own_box hb1 (by simp) hbx; obtain ⟨gx1, hcx1, hfx1⟩ := hbox1) | (go_at_call 70; refine (HM.out _).mono ?_; rintro e w2 ⟨rfl, hb2⟩; have hq2 : Below w.heap.size w w2 := (hq1.alloc hs1 _).trans (hb2.mono (by simp; omega)); have hs2 := hq2.size; have hbox2 := own_box hb2 (by simp; have := size_of_box gx1; omega) (box_old _ gx1); obtain ⟨gx2, hcx2, hfx2⟩ := hbox2; have hbox2' := own_box hb2 (by simp) (box_new w1 _); obtain ⟨gr2, hcr2, hfr2⟩ := hbox2') | (go_at_call 71; refine (HF.out _ hq2).mono ?_; rintro e w3 ⟨rfl, hb3⟩; have hq3 : Below w.heap.size w w3 := hq2.trans (hb3.mono hs2); have hs3 := hq3.size; have hbox3 := own_box hb3 (size_of_box gx2) gx2; obtain ⟨gx3, hcx3, hfx3⟩ := hbox3; have hbox3' := own_box hb3 (size_of_box gr2) gr2; obtain ⟨gr3, hcr3, hfr3⟩ := hbox3') | (go_at_call 72; refine (HP.out _ hq3).mono ?_; rintro e w4 ⟨rfl, hb4⟩; have hq4 : Below w.heap.size w w4 := hq3.trans (hb4.mono hs3); have hs4 := hq4.size; have hbox4 := own_box hb4 (size_of_box gx3) gx3; obtain ⟨gx4, hcx4, hfx4⟩ := hbox4; have hbox4' := own_box hb4 (size_of_box gr3) gr3; obtain ⟨gr4, hcr4, hfr4⟩ := hbox4'))
  go_ret2
  exact PutGives.none Hpi.out (by decide) hq4
set_option maxHeartbeats 1000000 in
theorem put_full1 (S : Nat → Prop) (v u : Value) (l : List Btc) (c kind : Int) (nm : ByteArray) (b : Blt) (w : World) (h : RBtcs S w v l) (hu : VBlt S w u b) (hnm : nm.size ≤ 140737488355328) (hc : recCheck l c kind = 0) (hn : nameB nm = true) (hf : fitsB b c kind = true) (k : Nat) (hk : k < l.length) (hi : atI l nm = k) (hl : l[k].blts.length = 64) :
    Calls Try.prog 22 #[v, .int .i64 c, .int .u8 kind, .string nm, u] w (PutGives l c kind nm b w) := by
  obtain ⟨c0, d0, rfl, hB⟩ := hu
  obtain ⟨a0, cap0, rfl, rfl, -, -, -, -⟩ := hB.open
  have hb0 : Below w.heap.size w (w.alloc (.cells #[.int .u8 b.kind, .slice a0 b.marks.length cap0] 25)) := (Below.refl _ _).alloc (Nat.le_refl _) _
  have hbx := box_new w (.cells #[.int .u8 b.kind, .slice a0 b.marks.length cap0] 25)
  have hC := recordCheck S v l c kind _ (h.same (.of_below hb0))
  rw [hc] at hC
  have HC := Lib.hid hC
  have hM : ∀ W, Calls Try.prog 70 #[.agg #[.string nm, .slice none 0 0, .int .i64 c, .int .u8 kind]] W fun e w' => e = .returned (.bool (nameB nm)) ∧ Below W.heap.size W w' := fun W => by
    have := may (fun _ => False) (.string nm) (.slice none 0 0) ⟨nm, []⟩ c kind W ⟨_, rfl, hnm, RSl.nil⟩
    simpa [mayB] using this
  have hF : ∀ W, Below w.heap.size w W → Calls Try.prog 71 #[.agg #[.string nm, .slice none 0 0, .int .i64 c, .int .u8 kind], .agg #[.int .u8 b.kind, .slice a0 b.marks.length cap0]] W fun e w' => e = .returned (.bool (fitsB b c kind)) ∧ Below W.heap.size W w' :=
    fun W hW => fits S _ _ _ b c kind W ⟨_, _, rfl, dBlt.stable S _ _ _ _ (.of_below hW) hB⟩
  have hP : ∀ W, Below w.heap.size w W → Calls Try.prog 72 #[v, .string nm] W fun e w' => e = .returned (.int .i64 (atI l nm)) ∧ Below W.heap.size W w' :=
    fun W hW => place S v l nm W (h.same (.of_below hW))
  have hpi : putI l c kind nm b = 9 := by rw [putI, if_pos hc, if_pos (by simp [hn, hf]), if_pos (by rw [fullB, hi, if_neg (by omega)]; simp [hk, hl])]
  rw [hn] at hM
  rw [hf] at hF
  rw [hi] at hP
  have Hpi := Lib.hid hpi
  have HM := Lib.hid hM
  have HF := Lib.hid hF
  have HP := Lib.hid hP
  obtain ⟨a, cap, rfl, -, -⟩ := RSl.shape h
  obtain ⟨b', off, c1, d1, rfl, hS, hbw, hcc, hd, hx⟩ := RSl.at2 h k hk
  obtain ⟨a', cap', rfl, rfl, hl1, hl2, hI⟩ := hx.open
  have hl' : ((l[k].blts.length : Int) == 64) = true := by simp; omega
  clear hc hpi h hB hC hM hF hP hn hf hi hl hcc hx hI
  go_enter Try.func22, Try.ntmps22
  go_wp2_with (first | (go_at_call 39; refine HC.out.mono ?_; rintro e w1 ⟨rfl, hb1⟩; have hq1 : Below w.heap.size w w1 := hb0.trans (hb1.mono (by simp)); have hs1 := hq1.size; have hbox1 := own_box hb1 (by simp) hbx; obtain ⟨gx1, hcx1, hfx1⟩ := hbox1) | (go_at_call 70; refine (HM.out _).mono ?_; rintro e w2 ⟨rfl, hb2⟩; have hq2 : Below w.heap.size w w2 := (hq1.alloc hs1 _).trans (hb2.mono (by simp; omega)); have hs2 := hq2.size; have hbox2 := own_box hb2 (by simp; have := size_of_box gx1; omega) (box_old _ gx1); obtain ⟨gx2, hcx2, hfx2⟩ := hbox2; have hbox2' := own_box hb2 (by simp) (box_new w1 _); obtain ⟨gr2, hcr2, hfr2⟩ := hbox2') | (go_at_call 71; refine (HF.out _ hq2).mono ?_; rintro e w3 ⟨rfl, hb3⟩; have hq3 : Below w.heap.size w w3 := hq2.trans (hb3.mono hs2); have hs3 := hq3.size; have hbox3 := own_box hb3 (size_of_box gx2) gx2; obtain ⟨gx3, hcx3, hfx3⟩ := hbox3; have hbox3' := own_box hb3 (size_of_box gr2) gr2; obtain ⟨gr3, hcr3, hfr3⟩ := hbox3') | (go_at_call 72; refine (HP.out _ hq3).mono ?_; rintro e w4 ⟨rfl, hb4⟩; have hq4 : Below w.heap.size w w4 := hq3.trans (hb4.mono hs3); have hs4 := hq4.size; have hbox4 := own_box hb4 (size_of_box gx3) gx3; obtain ⟨gx4, hcx4, hfx4⟩ := hbox4; have hbox4' := own_box hb4 (size_of_box gr3) gr3; obtain ⟨gr4, hcr4, hfr4⟩ := hbox4'; have hd4 := (Same.of_below (S := Any) hq4).cell trivial hd))
  go_ret2
  exact PutGives.none Hpi.out (by decide) hq4

set_option maxHeartbeats 2000000 in
set_option maxRecDepth 100000 in
theorem put_grow (S : Nat → Prop) (v u : Value) (l : List Btc) (c kind : Int) (nm : ByteArray) (b : Blt) (w : World) (h : RBtcs S w v l) (hu : VBlt S w u b) (hnm : nm.size ≤ 140737488355328) (hc : recCheck l c kind = 0) (hsm : Small l) (hmk : b.marks.length ≤ 1000000) (hn : nameB nm = true) (hf : fitsB b c kind = true) (k : Nat) (hk : k < l.length) (hi : atI l nm = k) (hl : l[k].blts.length ≠ 64) :
    Calls Try.prog 22 #[v, .int .i64 c, .int .u8 kind, .string nm, u] w (PutGives l c kind nm b w) := by
  obtain ⟨c0, d0, rfl, hB⟩ := hu
  obtain ⟨a0, cap0, rfl, rfl, -, -, -, -⟩ := hB.open
  have hb0 : Below w.heap.size w (w.alloc (.cells #[.int .u8 b.kind, .slice a0 b.marks.length cap0] 25)) := (Below.refl _ _).alloc (Nat.le_refl _) _
  have hbx := box_new w (.cells #[.int .u8 b.kind, .slice a0 b.marks.length cap0] 25)
  have hC := recordCheck S v l c kind _ (h.same (.of_below hb0))
  rw [hc] at hC
  have HC := Lib.hid hC
  have hM : ∀ W, Calls Try.prog 70 #[.agg #[.string nm, .slice none 0 0, .int .i64 c, .int .u8 kind]] W fun e w' => e = .returned (.bool (nameB nm)) ∧ Below W.heap.size W w' := fun W => by
    have := may (fun _ => False) (.string nm) (.slice none 0 0) ⟨nm, []⟩ c kind W ⟨_, rfl, hnm, RSl.nil⟩
    simpa [mayB] using this
  have hF : ∀ W, Below w.heap.size w W → Calls Try.prog 71 #[.agg #[.string nm, .slice none 0 0, .int .i64 c, .int .u8 kind], .agg #[.int .u8 b.kind, .slice a0 b.marks.length cap0]] W fun e w' => e = .returned (.bool (fitsB b c kind)) ∧ Below W.heap.size W w' :=
    fun W hW => fits S _ _ _ b c kind W ⟨_, _, rfl, dBlt.stable S _ _ _ _ (.of_below hW) hB⟩
  have hP : ∀ W, Below w.heap.size w W → Calls Try.prog 72 #[v, .string nm] W fun e w' => e = .returned (.int .i64 (atI l nm)) ∧ Below W.heap.size W w' :=
    fun W hW => place S v l nm W (h.same (.of_below hW))
  have hpi : putI l c kind nm b = 0 := by rw [putI, if_pos hc, if_pos (by simp [hn, hf]), if_neg (by rw [fullB, hi, if_neg (by omega)]; simp [hk, hl])]
  have hpL : putL l c kind nm b = l.modify k (grow1 b) := by rw [putL, if_pos hpi, put1, hi, if_neg (by omega)]; rfl
  have hT : ∀ W, Below w.heap.size w W → Calls Try.prog 38 #[v] W (fun e w' => ∃ v ys, e = .returned v ∧ Twinned W.heap.size w' v ys ∧ ys.map (·.x) = l ∧ Below W.heap.size W w') :=
    fun W hW => twin S v l W (h.same (.of_below hW)) hsm
  have hCp : ∀ W, Below w.heap.size w W → Calls Try.prog 73 #[.agg #[.int .u8 b.kind, .slice a0 b.marks.length cap0]] W fun e w' => ∃ d, e = .returned (.agg #[.int .u8 b.kind, d]) ∧ wBlt (Span W.heap.size w'.heap.size) w' [.int .u8 b.kind, d] b ∧ Below W.heap.size W w' :=
    fun W hW => copied2 S _ b W ⟨_, _, rfl, dBlt.stable S _ _ _ _ (.of_below hW) hB⟩ (by omega)
  rw [hn] at hM
  rw [hf] at hF
  rw [hi] at hP
  have Hpi := Lib.hid hpi
  have HpL := Lib.hid hpL
  have HM := Lib.hid hM
  have HF := Lib.hid hF
  have HP := Lib.hid hP
  have HT := Lib.hid hT
  have HCp := Lib.hid hCp
  obtain ⟨a, cap, rfl, -, -⟩ := RSl.shape h
  obtain ⟨b', off, c1, d1, rfl, hS, hbw, hcc, hd, hx⟩ := RSl.at2 h k hk
  obtain ⟨a', cap', rfl, rfl, hl1, hl2, hI⟩ := hx.open
  have hl' : ((l[k].blts.length : Int) == 64) = false := by simp; omega
  have hsl : l[k].blts.length ≤ 1000000 := (hsm.2 _ (List.getElem_mem hk)).1
  have hsl2 : l.length ≤ 1000000 := hsm.1
  clear hc hpi hpL h hB hC hM hF hP hT hCp hn hf hi hl hcc hx hI hsm
  go_enter Try.func22, Try.ntmps22
  go_wp2_with (first | (go_at_call 39; refine HC.out.mono ?_; rintro e w1 ⟨rfl, hb1⟩; have hq1 : Below w.heap.size w w1 := hb0.trans (hb1.mono (by simp)); have hs1 := hq1.size; have hbox1 := own_box hb1 (by simp) hbx; obtain ⟨gx1, hcx1, hfx1⟩ := hbox1) | (go_at_call 70; refine (HM.out _).mono ?_; rintro e w2 ⟨rfl, hb2⟩; have hq2 : Below w.heap.size w w2 := (hq1.alloc hs1 _).trans (hb2.mono (by simp; omega)); have hs2 := hq2.size; have hbox2 := own_box hb2 (by simp; have := size_of_box gx1; omega) (box_old _ gx1); obtain ⟨gx2, hcx2, hfx2⟩ := hbox2; have hbox2' := own_box hb2 (by simp) (box_new w1 _); obtain ⟨gr2, hcr2, hfr2⟩ := hbox2') | (go_at_call 71; refine (HF.out _ hq2).mono ?_; rintro e w3 ⟨rfl, hb3⟩; have hq3 : Below w.heap.size w w3 := hq2.trans (hb3.mono hs2); have hs3 := hq3.size; have hbox3 := own_box hb3 (size_of_box gx2) gx2; obtain ⟨gx3, hcx3, hfx3⟩ := hbox3; have hbox3' := own_box hb3 (size_of_box gr2) gr2; obtain ⟨gr3, hcr3, hfr3⟩ := hbox3') | (go_at_call 72; refine (HP.out _ hq3).mono ?_; rintro e w4 ⟨rfl, hb4⟩; have hq4 : Below w.heap.size w w4 := hq3.trans (hb4.mono hs3); have hs4 := hq4.size; have hbox4 := own_box hb4 (size_of_box gx3) gx3; obtain ⟨gx4, hcx4, hfx4⟩ := hbox4; have hbox4' := own_box hb4 (size_of_box gr3) gr3; obtain ⟨gr4, hcr4, hfr4⟩ := hbox4'; have hd4 := (Same.of_below (S := Any) hq4).cell trivial hd) | (go_at_call 38; refine (HT.out _ hq4).mono ?_; rintro e w5 ⟨v5, ys, rfl, htw, hys, hb5⟩; have hq5 : Below w.heap.size w w5 := hq4.trans (hb5.mono hs4); have hs5 := hq5.size; have hbox5 := own_box hb5 (size_of_box gx4) gx4; obtain ⟨gx5, hcx5, hfx5⟩ := hbox5; have hbox5' := own_box hb5 (size_of_box gr4) gr4; obtain ⟨gr5, hcr5, hfr5⟩ := hbox5'; obtain ⟨a5, c5, hv5⟩ := htw.1.shape; have hyl : ys.length = l.length := (by rw [← hys]; simp); rw [hyl] at hv5; subst hv5))
  obtain ⟨zs, hzs⟩ : ∃ zs, zs = ys := ⟨_, rfl⟩
  subst hzs
  have hkz : k < zs.length := by omega
  have hzk : zs[k].x = l[k] := by
    have := congrArg (fun q => q[k]?) hys
    simpa [hkz, hk] using this
  have Hlist : RowKit.Hid ((zs.map (·.x)).modify k (grow1 b) = l.modify k (grow1 b)) := by rw [hys]; exact rfl
  have hl2W : zs[k].x.blts.length ≤ 1000000 := by rw [hzk]; exact hsl
  have hqW := hq5
  have htwW := htw
  clear htw hys hzk
  have hsW := hqW.size
  have hkz' : ((k : Nat) : Int) < zs.length := by omega
  obtain ⟨g, d, rfl, hg1, hg2, hc5, hd5, hf5, hn5, hl5, hdo, hhi, hlo, hng, hsh, hown⟩ := htwW.at hkz
  obtain ⟨a2, c2, hd2⟩ := hsh
  obtain ⟨n2, hn2⟩ : ∃ n, n = zs[k].x.blts.length := ⟨_, rfl⟩
  rw [← hn2] at hd2
  clear hn2
  subst hd2
  have hgne : some g ≠ (Value.slice a2 n2 c2).ownBlock := fun e => by have := hdo g e.symm; exact hng g this.1 this.2 rfl
  have hA : ∀ (w8 : World) (d6 : Value), wBlt (Span w5.drew.heap.size w8.heap.size) w8 [.int .u8 b.kind, d6] b → Below w5.drew.heap.size w5.drew w8 →
      Own zs[k].lo 25 2 (wBlt (Gr zs[k] (.slice a2 n2 c2) w5.heap.size w8.heap.size)) (w8.alloc (.cells #[.int .u8 b.kind, d6] 25)) (.slice a2 n2 c2) zs[k].x.blts ∧
      RSl (From 0) 2 (wBlt (Gr zs[k] (.slice a2 n2 c2) w5.heap.size w8.heap.size)) (w8.alloc (.cells #[.int .u8 b.kind, d6] 25)) (.slice (some ⟨w8.heap.size, 0, none⟩) 1 1) [b] ∧
      (zs[k].x.blts.length + [b].length) * 32 ≤ 140737488355328 ∧ zs[k].lo ≤ (w8.alloc (.cells #[.int .u8 b.kind, d6] 25)).heap.size := by
    intro w8 d6 hv6 hb6
    refine ⟨Gr.old hown ((Below.drew (Below.refl _ _)).trans hb6) _ _ _, RSl.built (Nat.zero_le _) (box_new w8 (.cells #[.int .u8 b.kind, d6] 25)) rfl (Gr.new (w := w5) hv6 _), by simp; omega, ?_⟩
    have := hb6.size; simp at this ⊢; omega
  have HA := Lib.hid hA; clear hA hown
  have Hgne := Lib.hid hgne; clear hgne
  have Hng := Lib.hid hng; clear hng
  have Hdo := Lib.hid hdo; clear hdo
  have hfk := hf5 (k * 2 + 1)
  clear hf5
  have HtwW := Lib.hid htwW; clear htwW
  have h72 := Lib.hid hl2W
  clear hl2W
  go_region_law (first | (refine step_appV _ Try.infoBlt rfl rfl Try.underlying62 ⟨rfl, by omega, by omega⟩ (wBlt.one (Gr zs[k] (.slice a2 n2 c2) w5.heap.size w8.heap.size)) (wBlt.stable (Gr zs[k] (.slice a2 n2 c2) w5.heap.size w8.heap.size)) zs[k].lo (HA.out w8 d6 hv6 hb6).1 rfl (HA.out w8 d6 hv6 hb6).2.1 rfl (HA.out w8 d6 hv6 hb6).2.2.1 (HA.out w8 d6 hv6 hb6).2.2.2 ?_; intro a' n' c' w9 hgr hob hO; have hk7 := keeps_cell hg2 Hgne.out ((Below.drew (Below.refl _ _)).trans hb6) hgr hd5 hfk; obtain ⟨k71, k72⟩ := hk7) | (go_simp; go_at_call 73; refine (HCp.out _ (hqW.trans ((Below.drew (Below.refl _ _)).mono hsW))).mono ?_; rintro e w8 ⟨d6, rfl, hv6, hb6⟩; have hd56 := (Same.of_below (S := Any) hb6).cell trivial hd5; have hgw6 : g < w8.heap.size := (by have := hb6.size; simp at this; omega)))
  all_goals
    go_wp2
    go_ret2
    have hb7 : Below w5.heap.size w5 w8 := (Below.drew (Below.refl _ _)).trans hb6
    have hres := HtwW.out.grow (o := .cells #[.int .u8 b.kind, d6] 25) hkz (by omega) (by have := h72.out; omega) hd5 hb7 hgr hob (hO (Gr.same hgr hb7 (fun b hb => by have := Hdo.out b hb; omega)))
    refine PutGives.some Hpi.out (HpL.out.trans Hlist.out.symm) hres (by omega) ?_
    exact (((hqW.trans (hb7.mono hsW)).alloc (by have := hb7.size; omega) _).grown hgr (by simp; have := hb7.size; omega) (fun b hb => by have := Hdo.out b hb; omega)).setCell (p := ⟨g, k * 2 + 1, none⟩) (by show w.heap.size ≤ g; omega) _

set_option maxHeartbeats 2000000 in
set_option maxRecDepth 100000 in
theorem put_push (S : Nat → Prop) (v u : Value) (l : List Btc) (c kind : Int) (nm : ByteArray) (b : Blt) (w : World) (h : RBtcs S w v l) (hu : VBlt S w u b) (hnm : nm.size ≤ 140737488355328) (hc : recCheck l c kind = 0) (hsm : Small l) (hmk : b.marks.length ≤ 1000000) (hn : nameB nm = true) (hf : fitsB b c kind = true) (hi : atI l nm = -1) (hl : l.length ≠ 16) :
    Calls Try.prog 22 #[v, .int .i64 c, .int .u8 kind, .string nm, u] w (PutGives l c kind nm b w) := by
  obtain ⟨c0, d0, rfl, hB⟩ := hu
  obtain ⟨a0, cap0, rfl, rfl, -, -, -, -⟩ := hB.open
  have hb0 : Below w.heap.size w (w.alloc (.cells #[.int .u8 b.kind, .slice a0 b.marks.length cap0] 25)) := (Below.refl _ _).alloc (Nat.le_refl _) _
  have hbx := box_new w (.cells #[.int .u8 b.kind, .slice a0 b.marks.length cap0] 25)
  have hC := recordCheck S v l c kind _ (h.same (.of_below hb0))
  rw [hc] at hC
  have HC := Lib.hid hC
  have hM : ∀ W, Calls Try.prog 70 #[.agg #[.string nm, .slice none 0 0, .int .i64 c, .int .u8 kind]] W fun e w' => e = .returned (.bool (nameB nm)) ∧ Below W.heap.size W w' := fun W => by
    have := may (fun _ => False) (.string nm) (.slice none 0 0) ⟨nm, []⟩ c kind W ⟨_, rfl, hnm, RSl.nil⟩
    simpa [mayB] using this
  have hF : ∀ W, Below w.heap.size w W → Calls Try.prog 71 #[.agg #[.string nm, .slice none 0 0, .int .i64 c, .int .u8 kind], .agg #[.int .u8 b.kind, .slice a0 b.marks.length cap0]] W fun e w' => e = .returned (.bool (fitsB b c kind)) ∧ Below W.heap.size W w' :=
    fun W hW => fits S _ _ _ b c kind W ⟨_, _, rfl, dBlt.stable S _ _ _ _ (.of_below hW) hB⟩
  have hP : ∀ W, Below w.heap.size w W → Calls Try.prog 72 #[v, .string nm] W fun e w' => e = .returned (.int .i64 (atI l nm)) ∧ Below W.heap.size W w' :=
    fun W hW => place S v l nm W (h.same (.of_below hW))
  have hpi : putI l c kind nm b = 0 := by rw [putI, if_pos hc, if_pos (by simp [hn, hf]), if_neg (by rw [fullB, hi, if_pos (by omega)]; simp [hl])]
  have hpL : putL l c kind nm b = l ++ [⟨nm, [b]⟩] := by rw [putL, if_pos hpi, put1, hi, if_pos (by omega)]
  have hT : ∀ W, Below w.heap.size w W → Calls Try.prog 38 #[v] W (fun e w' => ∃ v ys, e = .returned v ∧ Twinned W.heap.size w' v ys ∧ ys.map (·.x) = l ∧ Below W.heap.size W w') :=
    fun W hW => twin S v l W (h.same (.of_below hW)) hsm
  have hCp : ∀ W, Below w.heap.size w W → Calls Try.prog 73 #[.agg #[.int .u8 b.kind, .slice a0 b.marks.length cap0]] W fun e w' => ∃ d, e = .returned (.agg #[.int .u8 b.kind, d]) ∧ wBlt (Span W.heap.size w'.heap.size) w' [.int .u8 b.kind, d] b ∧ Below W.heap.size W w' :=
    fun W hW => copied2 S _ b W ⟨_, _, rfl, dBlt.stable S _ _ _ _ (.of_below hW) hB⟩ (by omega)
  have hnew : ∀ (W W' : World) (v' : Value) (base : Nat), dSep (Rg base W' v') W' [.string nm, .slice none 0 0] ⟨⟨nm, []⟩, W.heap.size, W.heap.size⟩ := fun W W' v' base =>
    ⟨fun b h1 h2 => by simp at h1 h2; omega, _, rfl, hnm, by simp, by simp [Value.ownBlock], Own.nil _ _ _ _ _⟩
  rw [hn] at hM
  rw [hf] at hF
  rw [hi] at hP
  have Hpi := Lib.hid hpi
  have HpL := Lib.hid hpL
  have HM := Lib.hid hM
  have HF := Lib.hid hF
  have HP := Lib.hid hP
  have HT := Lib.hid hT
  have HCp := Lib.hid hCp
  have Hnew := Lib.hid hnew
  obtain ⟨a, cap, rfl, -, -⟩ := RSl.shape h
  have hl' : ((l.length : Int) == 16) = false := by simp; omega
  have hsl2 : l.length ≤ 1000000 := hsm.1
  clear hc hpi hpL h hB hC hM hF hP hT hCp hn hf hi hl hsm hnew
  go_enter Try.func22, Try.ntmps22
  go_wp2_with (first | (go_at_call 39; refine HC.out.mono ?_; rintro e w1 ⟨rfl, hb1⟩; have hq1 : Below w.heap.size w w1 := hb0.trans (hb1.mono (by simp)); have hs1 := hq1.size; have hbox1 := own_box hb1 (by simp) hbx; obtain ⟨gx1, hcx1, hfx1⟩ := hbox1) | (go_at_call 70; refine (HM.out _).mono ?_; rintro e w2 ⟨rfl, hb2⟩; have hq2 : Below w.heap.size w w2 := (hq1.alloc hs1 _).trans (hb2.mono (by simp; omega)); have hs2 := hq2.size; have hbox2 := own_box hb2 (by simp; have := size_of_box gx1; omega) (box_old _ gx1); obtain ⟨gx2, hcx2, hfx2⟩ := hbox2; have hbox2' := own_box hb2 (by simp) (box_new w1 _); obtain ⟨gr2, hcr2, hfr2⟩ := hbox2') | (go_at_call 71; refine (HF.out _ hq2).mono ?_; rintro e w3 ⟨rfl, hb3⟩; have hq3 : Below w.heap.size w w3 := hq2.trans (hb3.mono hs2); have hs3 := hq3.size; have hbox3 := own_box hb3 (size_of_box gx2) gx2; obtain ⟨gx3, hcx3, hfx3⟩ := hbox3; have hbox3' := own_box hb3 (size_of_box gr2) gr2; obtain ⟨gr3, hcr3, hfr3⟩ := hbox3') | (go_at_call 72; refine (HP.out _ hq3).mono ?_; rintro e w4 ⟨rfl, hb4⟩; have hq4 : Below w.heap.size w w4 := hq3.trans (hb4.mono hs3); have hs4 := hq4.size; have hbox4 := own_box hb4 (size_of_box gx3) gx3; obtain ⟨gx4, hcx4, hfx4⟩ := hbox4; have hbox4' := own_box hb4 (size_of_box gr3) gr3; obtain ⟨gr4, hcr4, hfr4⟩ := hbox4') | (go_at_call 38; refine (HT.out _ hq4).mono ?_; rintro e w5 ⟨v5, ys, rfl, htw, hys, hb5⟩; have hq5 : Below w.heap.size w w5 := hq4.trans (hb5.mono hs4); have hs5 := hq5.size; have hbox5 := own_box hb5 (size_of_box gx4) gx4; obtain ⟨gx5, hcx5, hfx5⟩ := hbox5; have hbox5' := own_box hb5 (size_of_box gr4) gr4; obtain ⟨gr5, hcr5, hfr5⟩ := hbox5'; obtain ⟨a5, c5, hv5⟩ := htw.1.shape; have hyl : ys.length = l.length := (by rw [← hys]; simp); rw [hyl] at hv5; subst hv5) | (at_builtin; go_must (refine wpList_appX _ Try.infoBtc rfl rfl Try.underlying22 ⟨rfl, by omega, by omega⟩ famSep w4.heap.size (htw.below ((Below.refl w5.heap.size w5).alloc (Nat.le_refl _) (.cells #[.string nm, .slice none 0 0] 64))).1 rfl (g := w5.heap.size) (cs := [.string nm, .slice none 0 0]) (y := ⟨⟨nm, []⟩, w5.heap.size, w5.heap.size⟩) (box_new _ _) rfl (Hnew.out _ _ _ _) rfl (by omega) (by have := hb5.size; simp; omega) ?_); go_must (intro a' n' c' w6 hgr6 hO6)))
  obtain ⟨zs, hzs⟩ : ∃ zs, zs = ys ++ [(⟨⟨nm, []⟩, w5.heap.size, w5.heap.size⟩ : Sp)] := ⟨_, rfl⟩
  rw [← hzs] at hO6
  have hzl : zs.length = l.length + 1 := by rw [hzs]; simp [hyl]
  have hkz : l.length < zs.length := by omega
  have hzk : zs[l.length].x = ⟨nm, []⟩ := by
    have h1 : zs[l.length]? = some ⟨⟨nm, []⟩, w5.heap.size, w5.heap.size⟩ := by rw [hzs, ← hyl]; simp
    rw [List.getElem?_eq_getElem hkz] at h1
    rw [Option.some.inj h1]
  have hb5s := hb5.size
  have hg6s : w5.heap.size + 1 ≤ w6.heap.size := by have := hgr6.size; simpa using this
  have htwW : Twinned w4.heap.size w6 (.slice a' n' c') zs := by
    rw [hzs]
    exact Twinned.push htw.2.1 (fun z hz => by have := htw.2.2 z hz; simp; omega) ⟨by simp; omega, by simp, by simp; omega⟩ (by rw [← hzs]; exact hO6)
  have hkn : l.length < n' := by
    obtain ⟨x1, x2, hsh6⟩ := hO6.shape
    simp only [Value.slice.injEq] at hsh6
    omega
  have Hlist : RowKit.Hid ((zs.map (·.x)).modify l.length (grow1 b) = l ++ [⟨nm, [b]⟩]) := by
    have hm : zs.map (·.x) = l ++ [⟨nm, []⟩] := by rw [hzs, List.map_append, hys]; rfl
    rw [hm, modify_last]
    exact rfl
  have hl2W : zs[l.length].x.blts.length ≤ 1000000 := by rw [hzk]; simp
  have hoL : ∀ g, (Value.slice a5 l.length c5).ownBlock = some g → w4.heap.size ≤ g ∧ g < w5.heap.size := htw.1.lt
  have hlt4 := size_of_box gx4
  have hlt5 := size_of_box gx5
  have hqW : Below w.heap.size w w6 := (hq5.alloc hs5 _).grown hgr6 (by simp; omega) (fun g hg => by have := hoL g hg; omega)
  have gx6 : w6.heap[w.heap.size]? = some (.cells #[.int .u8 b.kind, .slice a0 b.marks.length cap0] 25 (0, 0)) := (hgr6.block _ (by simp; omega) (fun e => by have := (hoL _ e.symm).1; omega)).trans (box_old _ gx5)
  obtain ⟨-, hcx6, hfx6⟩ := own_box (Below.refl w6.heap.size w6) (size_of_box gx6) gx6
  clear htw hys hzk hO6 hoL hgr6
  have hsW := hqW.size
  have hkz' : ((l.length : Nat) : Int) < zs.length := by omega
  obtain ⟨g, d, rfl, hg1, hg2, hc5, hd5, hf5, hn5, hl5, hdo, hhi, hlo, hng, hsh, hown⟩ := htwW.at hkz
  obtain ⟨a2, c2, hd2⟩ := hsh
  obtain ⟨n2, hn2⟩ : ∃ n, n = zs[l.length].x.blts.length := ⟨_, rfl⟩
  rw [← hn2] at hd2
  clear hn2
  subst hd2
  have hgne : some g ≠ (Value.slice a2 n2 c2).ownBlock := fun e => by have := hdo g e.symm; exact hng g this.1 this.2 rfl
  have hA : ∀ (w8 : World) (d6 : Value), wBlt (Span w6.drew.heap.size w8.heap.size) w8 [.int .u8 b.kind, d6] b → Below w6.drew.heap.size w6.drew w8 →
      Own zs[l.length].lo 25 2 (wBlt (Gr zs[l.length] (.slice a2 n2 c2) w6.heap.size w8.heap.size)) (w8.alloc (.cells #[.int .u8 b.kind, d6] 25)) (.slice a2 n2 c2) zs[l.length].x.blts ∧
      RSl (From 0) 2 (wBlt (Gr zs[l.length] (.slice a2 n2 c2) w6.heap.size w8.heap.size)) (w8.alloc (.cells #[.int .u8 b.kind, d6] 25)) (.slice (some ⟨w8.heap.size, 0, none⟩) 1 1) [b] ∧
      (zs[l.length].x.blts.length + [b].length) * 32 ≤ 140737488355328 ∧ zs[l.length].lo ≤ (w8.alloc (.cells #[.int .u8 b.kind, d6] 25)).heap.size := by
    intro w8 d6 hv6 hb6
    refine ⟨Gr.old hown ((Below.drew (Below.refl _ _)).trans hb6) _ _ _, RSl.built (Nat.zero_le _) (box_new w8 (.cells #[.int .u8 b.kind, d6] 25)) rfl (Gr.new (w := w6) hv6 _), by simp; omega, ?_⟩
    have := hb6.size; simp at this ⊢; omega
  have HA := Lib.hid hA; clear hA hown
  have Hgne := Lib.hid hgne; clear hgne
  have Hng := Lib.hid hng; clear hng
  have Hdo := Lib.hid hdo; clear hdo
  have hfk := hf5 (l.length * 2 + 1)
  clear hf5
  have HtwW := Lib.hid htwW; clear htwW
  have h72 := Lib.hid hl2W
  clear hl2W
  go_region_law (first | (refine step_appV _ Try.infoBlt rfl rfl Try.underlying62 ⟨rfl, by omega, by omega⟩ (wBlt.one (Gr zs[l.length] (.slice a2 n2 c2) w6.heap.size w8.heap.size)) (wBlt.stable (Gr zs[l.length] (.slice a2 n2 c2) w6.heap.size w8.heap.size)) zs[l.length].lo (HA.out w8 d6 hv6 hb6).1 rfl (HA.out w8 d6 hv6 hb6).2.1 rfl (HA.out w8 d6 hv6 hb6).2.2.1 (HA.out w8 d6 hv6 hb6).2.2.2 ?_; intro a' n' c' w9 hgr hob hO; have hk7 := keeps_cell hg2 Hgne.out ((Below.drew (Below.refl _ _)).trans hb6) hgr hd5 hfk; obtain ⟨k71, k72⟩ := hk7) | (go_simp; go_at_call 73; refine (HCp.out _ (hqW.trans ((Below.drew (Below.refl _ _)).mono hsW))).mono ?_; rintro e w8 ⟨d6, rfl, hv6, hb6⟩; have hd56 := (Same.of_below (S := Any) hb6).cell trivial hd5; have hgw6 : g < w8.heap.size := (by have := hb6.size; simp at this; omega)))
  all_goals
    go_wp2
    go_ret2
    have hb7 : Below w6.heap.size w6 w8 := (Below.drew (Below.refl _ _)).trans hb6
    have hres := HtwW.out.grow (o := .cells #[.int .u8 b.kind, d6] 25) hkz (by omega) (by have := h72.out; omega) hd5 hb7 hgr hob (hO (Gr.same hgr hb7 (fun b hb => by have := Hdo.out b hb; omega)))
    refine PutGives.some Hpi.out (HpL.out.trans Hlist.out.symm) hres (by omega) ?_
    exact (((hqW.trans (hb7.mono hsW)).alloc (by have := hb7.size; omega) _).grown hgr (by simp; have := hb7.size; omega) (fun b hb => by have := Hdo.out b hb; omega)).setCell (p := ⟨g, l.length * 2 + 1, none⟩) (by show w.heap.size ≤ g; omega) _
theorem put (S : Nat → Prop) (v u : Value) (l : List Btc) (c kind : Int) (nm : ByteArray) (b : Blt) (w : World) (h : RBtcs S w v l) (hu : VBlt S w u b) (hnm : nm.size ≤ 140737488355328) (hsm : Small l) (hmk : b.marks.length ≤ 1000000) :
    Calls Try.prog 22 #[v, .int .i64 c, .int .u8 kind, .string nm, u] w (PutGives l c kind nm b w) := by
  by_cases hc : recCheck l c kind = 0
  · cases hn : nameB nm
    · exact put_noname S v u l c kind nm b w h hu hnm hc hn
    · cases hf : fitsB b c kind
      · exact put_unfit S v u l c kind nm b w h hu hnm hc hn hf
      · by_cases hi : atI l nm < 0
        · have hi' : atI l nm = -1 := by have : -1 ≤ atI l nm := idxB_ge _ _; omega
          by_cases hl : l.length = 16
          · exact put_full0 S v u l c kind nm b w h hu hnm hc hn hf hi' hl
          · exact put_push S v u l c kind nm b w h hu hnm hc hsm hmk hn hf hi' hl
        · have hlt : atI l nm < l.length := idxB_lt _ _
          obtain ⟨k, hk⟩ := Int.eq_ofNat_of_zero_le (a := atI l nm) (by omega)
          have hkl : k < l.length := by omega
          by_cases hl : l[k].blts.length = 64
          · exact put_full1 S v u l c kind nm b w h hu hnm hc hn hf k hkl hk hl
          · exact put_grow S v u l c kind nm b w h hu hnm hc hsm hmk hn hf k hkl hk hl
  · exact put_check S v u l c kind nm b w h hu hc
end Go.Proofs.Ytkjgddcjhikdgaa
