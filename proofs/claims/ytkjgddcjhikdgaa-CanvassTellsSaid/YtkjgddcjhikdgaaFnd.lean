/- Findings: how they read; the contracts of the reference's SameFindings and of, and of findings.put; what Reconcile finds, as a list. -/
import Derived.Test.YtkjgddcjhikdgaaChkS
namespace Go.Proofs.Ytkjgddcjhikdgaa
open Go Go.RowKit Go.Shelf Go.Maps

structure Fnd where
  kind : Int
  name : ByteArray
  want : Int
  has : Int
def dFnd (_ : World) (cs : List Value) (x : Fnd) : Prop := cs = [.int .u8 x.kind, .string x.name, .int .i64 x.want, .int .i64 x.has] ∧ (Lit.int .u8 x.kind).wf = true ∧ x.name.size ≤ 140737488355328 ∧ (Lit.int .i64 x.want).wf = true ∧ (Lit.int .i64 x.has).wf = true
theorem dFnd.stable (S : Nat → Prop) : Stable S dFnd := fun _ _ _ _ _ h => h
theorem dFnd.one : OneC dFnd := by
  intro w cs x h u hu; obtain ⟨rfl, _⟩ := h; simp at hu; rcases hu with rfl | rfl | rfl | rfl <;> rfl
theorem dFnd.open {w : World} {c d e f : Value} {x : Fnd} (h : dFnd w [c, d, e, f] x) : (c = .int .u8 x.kind ∧ d = .string x.name ∧ e = .int .i64 x.want ∧ f = .int .i64 x.has) ∧ (Lit.int .u8 x.kind).wf = true ∧ x.name.size ≤ 140737488355328 ∧ (Lit.int .i64 x.want).wf = true ∧ (Lit.int .i64 x.has).wf = true := by simpa [dFnd] using h
def eqFnd (x y : Fnd) : Bool := decide (x.kind = y.kind) && (sameName x.name y.name && (decide (x.want = y.want) && decide (x.has = y.has)))
theorem eqFnd_refl (x : Fnd) : eqFnd x x = true := by simp [eqFnd, sameName]
theorem Try.infoFnd : (Try.prog.info? 113).map (fun i => (i.zero, i.size, i.bytes)) = some (some (.agg #[.int .u8 0, .string ⟨#[]⟩, .int .i64 0, .int .i64 0]), 4, 40) := by kernel_rfl
theorem Try.fieldsFnd : Try.prog.underlying 113 = some (.struct (Try.prog.fieldsOf 113)) := by kernel_rfl
theorem Try.heldFnd : Try.prog.stoodInHeld 113 = false := by kernel_rfl
theorem neqFnd (w : World) {w1 w2 : World} {c d e f c' d' e' f' : Value} {x y : Fnd} (h : dFnd w1 [c, d, e, f] x) (k : dFnd w2 [c', d', e', f'] y) :
    (binOp .neq 113 (.agg #[c, d, e, f]) (.agg #[c', d', e', f'])).run Try.prog w = .ok (.bool (!eqFnd x y)) w := by
  obtain ⟨⟨rfl, rfl, rfl, rfl⟩, -⟩ := h.open
  obtain ⟨⟨rfl, rfl, rfl, rfl⟩, -⟩ := k.open
  rw [run_neq_struct, run_equalIn_agg _ _ _ _ _ Try.fieldsFnd Try.heldFnd]
  simp [go_sem, Try.underlying113, Try.underlying9, Try.underlying3, Try.underlying5]
  by_cases h0 : x.kind = y.kind <;> by_cases h1 : x.name.toList = y.name.toList <;> by_cases h2 : x.want = y.want <;> by_cases h3 : x.has = y.has <;> simp [h0, h1, h2, h3, eqFnd, sameName]
theorem RSl.at4 {α : Type} {S : Nat → Prop} {dec : World → List Value → α → Prop} {w : World} {a : Option Addr} {n cap : Nat} {xs : List α} (h : RSl S 4 dec w (.slice a n cap) xs) (k : Nat) (hk : k < xs.length) :
    ∃ b off c0 c1 c2 c3, a = some ⟨b, off, none⟩ ∧ S b ∧ b < w.heap.size ∧ w.cell? ⟨b, off + k * 4, none⟩ = some c0 ∧ w.cell? ⟨b, off + k * 4 + 1, none⟩ = some c1 ∧ w.cell? ⟨b, off + k * 4 + 2, none⟩ = some c2 ∧ w.cell? ⟨b, off + k * 4 + 3, none⟩ = some c3 ∧ dec w [c0, c1, c2, c3] xs[k] := by
  obtain ⟨a', cap', cells, hv, _, _, hD, h4⟩ := h
  simp only [Value.slice.injEq] at hv
  obtain ⟨rfl, rfl, rfl⟩ := hv
  rcases h4 with h4 | ⟨b, off, rfl, hS, hc⟩
  · subst h4; simp at hk
  have hl : k * 4 + 3 < cells.length := by rw [hD.1]; omega
  have h0 := hc (k * 4) _ (List.getElem?_eq_getElem (by omega))
  refine ⟨b, off, _, _, _, _, rfl, hS, lt_of_cell h0, h0, hc (k * 4 + 1) _ (List.getElem?_eq_getElem (by omega)), hc (k * 4 + 2) _ (List.getElem?_eq_getElem (by omega)), hc (k * 4 + 3) _ (List.getElem?_eq_getElem (by omega)), ?_⟩
  have := hD.2 k hk
  rwa [List.drop_eq_getElem_cons (by omega), List.drop_eq_getElem_cons (by omega), List.drop_eq_getElem_cons (by omega), List.drop_eq_getElem_cons hl, List.take_succ_cons, List.take_succ_cons, List.take_succ_cons, List.take_succ_cons, List.take_zero] at this

set_option maxHeartbeats 1000000 in
theorem sameFnds (S T : Nat → Prop) (u v : Value) (xs ys : List Fnd) (w : World) (hx : RSl S 4 dFnd w u xs) (hy : RSl T 4 dFnd w v ys) :
    Calls Try.prog 35 #[u, v] w fun e w' => e = .returned (.bool (eqL eqFnd xs ys)) ∧ Below w.heap.size w w' := by
  obtain ⟨a1, cap1, rfl, hx1, hx2⟩ := RSl.shape hx
  obtain ⟨a2, cap2, rfl, hy1, hy2⟩ := RSl.shape hy
  by_cases hl : xs.length = ys.length
  case neg =>
    have hl' : ((xs.length : Int) != (ys.length : Int)) = true := by simpa using (by omega : ¬ (xs.length : Int) = ys.length)
    have hr := eqL_ne_len (p := eqFnd) hl
    have Hr := Lib.hid hr; clear hr hl
    go_enter Try.func35, Try.ntmps35
    go_wp2
    go_ret
    exact ⟨ret_bool Hr.out.symm, Below.refl _ _⟩
  have hl' : ((xs.length : Int) != (ys.length : Int)) = false := by simpa using (by omega : (xs.length : Int) = ys.length)
  have Hl := Lib.hid hl; clear hl
  go_enter Try.func35, Try.ntmps35
  go_wp2
  go_loopw [5] (fun i wr => ∃ k : Nat, k ≤ xs.length ∧ i = .int .i64 k ∧ Hid (∀ j (h1 : j < xs.length) (h2 : j < ys.length), j < k → eqFnd xs[j] ys[j] = true) ∧ Below w.heap.size w wr) (fun i _ => xs.length - (intOf i).toNat)
  case atStart => exact ⟨0, Nat.zero_le _, rfl, Lib.hid (fun _ _ _ h => by omega), Below.refl _ _⟩
  case round =>
    obtain ⟨k, hk, rfl, hg, hb⟩ := hrel
    by_cases hlt : k < xs.length
    · have hlt2 : k < ys.length := by have := Hl.out; omega
      obtain ⟨b, off, c0, c1, c2, c3, rfl, -, hbw, hc0, hc1, hc2, hc3, hv⟩ := RSl.at4 hx k hlt
      obtain ⟨b2, off2, d0, d1, d2, d3, rfl, -, hbw2, hd0, hd1, hd2, hd3, hv2⟩ := RSl.at4 hy k hlt2
      have hq : ∀ w : World, (binOp .neq 113 (.agg #[c0, c1, c2, c3]) (.agg #[d0, d1, d2, d3])).run Try.prog w = .ok (.bool (!eqFnd xs[k] ys[k])) w := fun w => neqFnd w hv hv2
      obtain ⟨⟨rfl, rfl, rfl, rfl⟩, -⟩ := hv.open
      obtain ⟨⟨rfl, rfl, rfl, rfl⟩, -⟩ := hv2.open
      have ec0 := fun p => cell_ext (w := wr) ((Same.of_below (S := Any) hb).cell trivial hc0) p
      have ec1 := fun p => cell_ext (w := wr) ((Same.of_below (S := Any) hb).cell trivial hc1) p
      have ec2 := fun p => cell_ext (w := wr) ((Same.of_below (S := Any) hb).cell trivial hc2) p
      have ec3 := fun p => cell_ext (w := wr) ((Same.of_below (S := Any) hb).cell trivial hc3) p
      have ed0 := fun p => cell_ext (w := wr) ((Same.of_below (S := Any) hb).cell trivial hd0) p
      have ed1 := fun p => cell_ext (w := wr) ((Same.of_below (S := Any) hb).cell trivial hd1) p
      have ed2 := fun p => cell_ext (w := wr) ((Same.of_below (S := Any) hb).cell trivial hd2) p
      have ed3 := fun p => cell_ext (w := wr) ((Same.of_below (S := Any) hb).cell trivial hd3) p
      clear hc0 hd0 hc1 hd1 hc2 hd2 hc3 hd3 hv hv2
      cases he : eqFnd xs[k] ys[k]
      · rw [he] at hq
        have hr := eqL_ne_at (p := eqFnd) k hlt hlt2 he
        have Hr := Lib.hid hr; clear he hr
        go_wp2
        refine wp_region_ext (by kernel_rfl) (by kernel_rfl) ?_
        repeat (go_big_quiet_step (fail))
        refine wpQuiet_nil ?_
        intro _ hw'; obtain ⟨p, rfl⟩ := hw'
        go_wp2
        go_ret
        exact ⟨ret_bool Hr.out.symm, hb.trans ((below_ext wr p).mono hb.size)⟩
      · rw [he] at hq
        have He := Lib.hid he; clear he
        go_wp2
        refine wp_region_ext (by kernel_rfl) (by kernel_rfl) ?_
        repeat (go_big_quiet_step (fail))
        refine wpQuiet_nil ?_
        intro _ hw'; obtain ⟨p, rfl⟩ := hw'
        go_wp2
        refine ⟨⟨k + 1, by omega, by go_num, Lib.hid (fun j h1 h2 hj => ?_), hb.trans ((below_ext wr p).mono hb.size)⟩, by simp [intOf]; omega⟩
        by_cases e : j = k
        · subst e; exact He.out
        · exact hg.out j h1 h2 (by omega)
    · go_wp2
      go_ret
      exact ⟨ret_bool (eqL_of Hl.out (fun j h1 h2 => hg.out j h1 h2 (by omega))).symm, hb⟩


/-- The slot with a name: the reference's of. -/
def ofS (m : List Slot) (nm : ByteArray) : Option Slot := m.find? fun s => sameName s.name nm
def OfGives (m : List Slot) (nm : ByteArray) (w : World) (e : Ending) (w' : World) : Prop :=
  e = .returned (.tuple #[.agg #[.string ((ofS m nm).getD zS).name, .int .i64 ((ofS m nm).getD zS).many], .bool (ofS m nm).isSome]) ∧ Below w.heap.size w w'
theorem ofS_at {m : List Slot} {nm : ByteArray} {k : Nat} (hk : k < m.length) (h : sameName m[k].name nm = true) (hn : ∀ j (hj : j < k), sameName (m[j]'(by omega)).name nm = false) : ofS m nm = some m[k] :=
  List.find?_eq_some_iff_getElem.2 ⟨h, k, hk, rfl, fun j hj => by rw [hn j hj]; rfl⟩
theorem ofS_none {m : List Slot} {nm : ByteArray} (hn : ∀ j (hj : j < m.length), sameName m[j].name nm = false) : ofS m nm = none :=
  List.find?_eq_none.2 fun s hs => by obtain ⟨j, hj, rfl⟩ := List.getElem_of_mem hs; rw [hn j hj]; simp
set_option maxHeartbeats 1000000 in
theorem refOf (S : Nat → Prop) (v : Value) (m : List Slot) (nm : ByteArray) (w : World) (h : RSl S 2 dSlot w v m) :
    Calls Try.prog 78 #[v, .string nm] w (OfGives m nm w) := by
  obtain ⟨a, cap, rfl, h1, h2⟩ := RSl.shape h
  have hb0 : Below w.heap.size w (w.alloc (.cells #[.string ⟨#[]⟩, .int .i64 0] 95)) := below_new _ _
  have hbx := box_new w (.cells #[.string ⟨#[]⟩, .int .i64 0] 95)
  have Hbx := Lib.hid hbx; clear hbx
  go_enter Try.func78, Try.ntmps78
  go_wp2
  go_loopw [6] (fun i wr => ∃ k : Nat, k ≤ m.length ∧ i = .int .i64 k ∧ Hid (∀ j (hj : j < m.length), j < k → sameName m[j].name nm = false) ∧ Hid (wr.heap[w.heap.size]? = some (.cells #[.string ⟨#[]⟩, .int .i64 0] 95 (0, 0))) ∧ Below w.heap.size w wr) (fun i _ => m.length - (intOf i).toNat)
  case atStart => exact ⟨0, Nat.zero_le _, rfl, Lib.hid (fun _ _ h => by omega), Hbx, hb0⟩
  case round =>
    obtain ⟨k, hk, rfl, hg, hbx, hb⟩ := hrel
    obtain ⟨-, hcr, hfr⟩ := own_box (Below.refl _ _) (size_of_box hbx.out) hbx.out
    by_cases hlt : k < m.length
    · obtain ⟨b, off, c, d, rfl, hS, hbw, hc, hd, hx⟩ := RSl.at2 (RSl.same (dSlot.stable _) (.of_below hb) h) k hlt
      obtain ⟨⟨rfl, rfl⟩, hn, hwf⟩ := hx.open
      cases he : (m[k].name.toList == nm.toList)
      · have He := Lib.hid he
        clear hx
        go_wp2
        refine ⟨⟨k + 1, by omega, by go_num, Lib.hid (fun j hj hjk => ?_), hbx, hb⟩, by simp [intOf]; omega⟩
        by_cases e : j = k
        · subst e; exact He.out
        · exact hg.out j hj (by omega)
      · have hof : ofS m nm = some m[k] := ofS_at hlt he (fun j hj => hg.out j (by omega) hj)
        have Hof := Lib.hid hof
        clear hof hx
        go_wp2
        refine bodyPost_ret (v := .tuple #[.agg #[.string m[k].name, .int .i64 m[k].many], .bool true]) (by simp [results, Try.results78, go_sem, hcr]) rfl ⟨by rw [Hof.out]; rfl, (hb.setCell (p := ⟨w.heap.size, 0, none⟩) (Nat.le_refl _) _).setCell (p := ⟨w.heap.size, 1, none⟩) (Nat.le_refl _) _⟩
    · have hof : ofS m nm = none := ofS_none fun j hj => hg.out j hj (by omega)
      have Hof := Lib.hid hof
      clear hof
      go_wp2
      refine bodyPost_ret (v := .tuple #[.agg #[.string ⟨#[]⟩, .int .i64 0], .bool false]) (by simp [results, Try.results78, go_sem, hcr]) rfl ⟨by rw [Hof.out]; rfl, (hb.setCell (p := ⟨w.heap.size, 0, none⟩) (Nat.le_refl _) _).setCell (p := ⟨w.heap.size, 1, none⟩) (Nat.le_refl _) _⟩

/-- What put leaves alone: the blocks below base but for the receiver's. -/
def PutFrame (g base : Nat) (w w' : World) : Prop := w'.os = w.os ∧ w'.tape = w.tape ∧ w'.output = w.output ∧ w.heap.size ≤ w'.heap.size ∧ ∀ b, b < base → b ≠ g → w'.heap[b]? = w.heap[b]?
def PutGivesF (g base n : Nat) (L : List Fnd) (x : Fnd) (w : World) (e : Ending) (w' : World) : Prop :=
  (∃ u, e = .returned u) ∧ ∃ a c, w'.heap[g]? = some (.cells #[.slice a (n + 1) c] 127 (0, 0)) ∧ Own base 113 4 dFnd w' (.slice a (n + 1) c) (L ++ [x]) ∧ PutFrame g base w w'
set_option maxHeartbeats 1000000 in
theorem putF (g base n : Nat) (a : Option Addr) (c : Nat) (L : List Fnd) (x : Fnd) (w : World) (hg : w.heap[g]? = some (.cells #[.slice a n c] 127 (0, 0))) (hgb : g < base) (hbw : base ≤ w.heap.size) (ho : Own base 113 4 dFnd w (.slice a n c) L) (hl : L.length ≤ 100000000)
    (hk : (Lit.int .u8 x.kind).wf = true) (hn : x.name.size ≤ 140737488355328) (hw : (Lit.int .i64 x.want).wf = true) (hh : (Lit.int .i64 x.has).wf = true) :
    Calls Try.prog 77 #[.pointer (some ⟨g, 0, none⟩), .int .u8 x.kind, .string x.name, .int .i64 x.want, .int .i64 x.has] w (PutGivesF g base n L x w) := by
  obtain ⟨-, hcg, hfg⟩ := own_box (Below.refl _ _) (size_of_box hg) hg
  have hgw := size_of_box hg
  have hnl : n = L.length := by obtain ⟨_, _, e⟩ := Own.shape ho; simp at e; exact e.2.1
  have hOw := Own.below (S := fun _ => False) (dFnd.stable _) ho (below_new w (.cells #[.int .u8 x.kind, .string x.name, .int .i64 x.want, .int .i64 x.has] 113))
  have hlo := fun b hbk => (Own.lt ho b hbk).1
  have hu : RSl (From 0) 4 dFnd (w.alloc (.cells #[.int .u8 x.kind, .string x.name, .int .i64 x.want, .int .i64 x.has] 113)) (.slice (some ⟨w.heap.size, 0, none⟩) 1 1) [x] := RSl.built (w := w) (cs := [.int .u8 x.kind, .string x.name, .int .i64 x.want, .int .i64 x.has]) (Nat.zero_le _) (box_new _ _) rfl ⟨rfl, hk, hn, hw, hh⟩
  have HOw := Lib.hid hOw; have Hu := Lib.hid hu; have Hlo := Lib.hid hlo; have Hnl := Lib.hid hnl; have Hg := Lib.hid hg
  clear hOw hu hlo ho hnl hg hk hw hh
  go_enter Try.func77, Try.ntmps77
  go_wp2_with (at_builtin; go_must (refine wpList_app _ Try.infoFnd rfl rfl Try.underlying41 ⟨rfl, by omega, by omega⟩ dFnd.one (dFnd.stable (fun _ => False)) base HOw.out rfl Hu.out rfl (by simp only [List.length_cons, List.length_nil]; omega) (by simp; omega) ?_); intro a1 c1 w1 hgr hat ho1; have ho2 := ho1 (fun _ _ h => h.elim); have hgf : (w.alloc (.cells #[.int .u8 x.kind, .string x.name, .int .i64 x.want, .int .i64 x.has] 113)).heap[g]? = some (.cells #[.slice a n c] 127 (0, 0)) := box_old _ Hg.out; have hne : some g ≠ (Value.slice a n c).ownBlock := (fun he => by have := Hlo.out g he.symm; omega); have hg1 := (hgr.block g (by simp; omega) hne).trans hgf; obtain ⟨-, hcg1, hfg1⟩ := own_box (Below.refl _ _) (size_of_box hg1) hg1; have hb1 : Below base w w1 := (((below_new _ _).mono (by omega)).grown hgr (by simp; omega) (fun j hj => Hlo.out j hj)); have Ho2 := Lib.hid ho2; have Hgr := Lib.hid hgr; have Hat := Lib.hid hat; have Hg1 := Lib.hid hg1; clear ho1 ho2 hgr hat hgf hne hg1)
  go_end0
  have h3 := Ho2.out
  rw [List.length_append, ← Hnl.out] at h3
  refine ⟨⟨_, rfl⟩, a1, c1, ?_, ?_, hb1.os, hb1.tape, hb1.output, ?_, fun b hb hne => (Below.heap_setCell _ ⟨g, 0, none⟩ _ b hne).trans (hb1.block b hb)⟩
  · have := heap_setCell_at (o := 0) Hg1.out (.slice a1 (n + 1) c1)
    rw [← Hnl.out]
    simpa using this
  · exact Own.setCell (S := fun _ => False) (dFnd.stable _) h3 (p := ⟨g, 0, none⟩) hgb (by simp) _
  · simpa [World.setCell] using (by have := Hgr.out.size; simp at this; omega : w.heap.size ≤ w1.heap.size)
theorem MapF.block {w w' : World} {P : Program} {k e : TypeId} {b n : Nat} {f : Lit → Option Lit} (h : MapF w P k e b n f) (hb : w'.heap[b]? = w.heap[b]?) : MapF w' P k e b n f := by
  obtain ⟨D, ⟨es, clock, h1, h2⟩, h3⟩ := h
  exact ⟨D, ⟨es, clock, hb.trans h1, h2⟩, h3⟩
theorem PutFrame.below {g base B : Nat} {w0 w w' : World} (h : PutFrame g base w w') (hB : B ≤ g) (hg : g < base) (hb : Below B w0 w) : Below B w0 w' :=
  ⟨h.1.trans hb.os, h.2.1.trans hb.tape, h.2.2.1.trans hb.output, Nat.le_trans hb.size h.2.2.2.1, fun k hk => (h.2.2.2.2 k (by omega) (by omega)).trans (hb.block k hk)⟩
end Go.Proofs.Ytkjgddcjhikdgaa
