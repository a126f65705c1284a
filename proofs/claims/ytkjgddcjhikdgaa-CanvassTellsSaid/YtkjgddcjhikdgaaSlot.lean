/- Manifests and places: how they read; the contracts of their comparisons, and of both Manifests. -/
import Derived.Test.YtkjgddcjhikdgaaSizes
import Derived.Test.YtkjgddcjhikdgaaSame3
import Derived.Laws.StructEq
import Derived.Deep.RegionHeld3
namespace Go.Proofs.Ytkjgddcjhikdgaa
open Go Go.RowKit Go.Shelf

structure Slot where
  name : ByteArray
  many : Int
structure Place where
  batch : Int
  place : Int
def dSlot (_ : World) (cs : List Value) (x : Slot) : Prop := cs = [.string x.name, .int .i64 x.many] ∧ x.name.size ≤ 140737488355328 ∧ (Lit.int .i64 x.many).wf = true
def dPlace (_ : World) (cs : List Value) (x : Place) : Prop := cs = [.int .i64 x.batch, .int .i64 x.place] ∧ (Lit.int .i64 x.batch).wf = true ∧ (Lit.int .i64 x.place).wf = true
theorem dSlot.stable (S : Nat → Prop) : Stable S dSlot := fun _ _ _ _ _ h => h
theorem dPlace.stable (S : Nat → Prop) : Stable S dPlace := fun _ _ _ _ _ h => h
theorem dSlot.one : OneC dSlot := by
  intro w cs x h u hu; obtain ⟨rfl, _⟩ := h; simp at hu; rcases hu with rfl | rfl <;> rfl
theorem dPlace.one : OneC dPlace := by
  intro w cs x h u hu; obtain ⟨rfl, _⟩ := h; simp at hu; rcases hu with rfl | rfl <;> rfl
theorem dSlot.open {w : World} {c d : Value} {x : Slot} (h : dSlot w [c, d] x) : (c = .string x.name ∧ d = .int .i64 x.many) ∧ x.name.size ≤ 140737488355328 ∧ (Lit.int .i64 x.many).wf = true := by simpa [dSlot] using h
theorem dPlace.open {w : World} {c d : Value} {x : Place} (h : dPlace w [c, d] x) : (c = .int .i64 x.batch ∧ d = .int .i64 x.place) ∧ (Lit.int .i64 x.batch).wf = true ∧ (Lit.int .i64 x.place).wf = true := by simpa [dPlace] using h
def eqSlot (x y : Slot) : Bool := sameName x.name y.name && decide (x.many = y.many)
def eqPlace (x y : Place) : Bool := decide (x.batch = y.batch) && decide (x.place = y.place)
theorem eqSlot_refl (x : Slot) : eqSlot x x = true := by simp [eqSlot, sameName]
theorem eqPlace_refl (x : Place) : eqPlace x x = true := by simp [eqPlace]
def maniL (l : List Btc) : List Slot := l.map fun b => ⟨b.name, (b.blts.length : Int)⟩
theorem Try.infoSlot : (Try.prog.info? 95).map (fun i => (i.zero, i.size, i.bytes)) = some (some (.agg #[.string ⟨#[]⟩, .int .i64 0]), 2, 24) := by kernel_rfl
theorem Try.infoPlace : (Try.prog.info? 111).map (fun i => (i.zero, i.size, i.bytes)) = some (some (.agg #[.int .i64 0, .int .i64 0]), 2, 16) := by kernel_rfl
theorem Try.fieldsSlot : Try.prog.underlying 95 = some (.struct (Try.prog.fieldsOf 95)) := by kernel_rfl
theorem Try.fieldsPlace : Try.prog.underlying 111 = some (.struct (Try.prog.fieldsOf 111)) := by kernel_rfl
theorem Try.heldSlot : Try.prog.stoodInHeld 95 = false := by kernel_rfl
theorem Try.heldPlace : Try.prog.stoodInHeld 111 = false := by kernel_rfl
theorem neqSlot (w : World) {w1 w2 : World} {c d c' d' : Value} {x y : Slot} (h : dSlot w1 [c, d] x) (k : dSlot w2 [c', d'] y) :
    (binOp .neq 95 (.agg #[c, d]) (.agg #[c', d'])).run Try.prog w = .ok (.bool (!eqSlot x y)) w := by
  obtain ⟨⟨rfl, rfl⟩, -⟩ := h.open
  obtain ⟨⟨rfl, rfl⟩, -⟩ := k.open
  rw [run_neq_struct, run_equalIn_agg _ _ _ _ _ Try.fieldsSlot Try.heldSlot]
  simp [go_sem, Try.underlying95, Try.underlying9, Try.underlying3]
  by_cases h1 : x.name.toList = y.name.toList <;> by_cases h2 : x.many = y.many <;> simp [h1, h2, eqSlot, sameName]
theorem neqPlace (w : World) {w1 w2 : World} {c d c' d' : Value} {x y : Place} (h : dPlace w1 [c, d] x) (k : dPlace w2 [c', d'] y) :
    (binOp .neq 111 (.agg #[c, d]) (.agg #[c', d'])).run Try.prog w = .ok (.bool (!eqPlace x y)) w := by
  obtain ⟨⟨rfl, rfl⟩, -⟩ := h.open
  obtain ⟨⟨rfl, rfl⟩, -⟩ := k.open
  rw [run_neq_struct, run_equalIn_agg _ _ _ _ _ Try.fieldsPlace Try.heldPlace]
  simp [go_sem, Try.underlying111, Try.underlying3]
  by_cases h1 : x.batch = y.batch <;> by_cases h2 : x.place = y.place <;> simp [h1, h2, eqPlace]
set_option maxHeartbeats 1000000 in
theorem slotsEqual (S T : Nat → Prop) (u v : Value) (xs ys : List Slot) (w : World) (hx : RSl S 2 dSlot w u xs) (hy : RSl T 2 dSlot w v ys) :
    Calls Try.prog 131 #[u, v] w fun e w' => e = .returned (.bool (eqL eqSlot xs ys)) ∧ Below w.heap.size w w' := by
  obtain ⟨a1, cap1, rfl, hx1, hx2⟩ := RSl.shape hx
  obtain ⟨a2, cap2, rfl, hy1, hy2⟩ := RSl.shape hy
  by_cases hl : xs.length = ys.length
  case neg =>
    have hl' : ((xs.length : Int) != (ys.length : Int)) = true := by simpa using (by omega : ¬ (xs.length : Int) = ys.length)
    have hr := eqL_ne_len (p := eqSlot) hl
    have Hr := Lib.hid hr; clear hr hl
    go_enter Try.func131, Try.ntmps131
    go_wp2
    go_ret
    exact ⟨ret_bool Hr.out.symm, Below.refl _ _⟩
  have hl' : ((xs.length : Int) != (ys.length : Int)) = false := by simpa using (by omega : (xs.length : Int) = ys.length)
  have Hl := Lib.hid hl; clear hl
  go_enter Try.func131, Try.ntmps131
  go_wp2
  go_loopw [13] (fun i wr => ∃ k : Nat, k ≤ xs.length ∧ i = .int .i64 k ∧ Hid (∀ j (h1 : j < xs.length) (h2 : j < ys.length), j < k → eqSlot xs[j] ys[j] = true) ∧ Below w.heap.size w wr) (fun i _ => xs.length - (intOf i).toNat)
  case atStart => exact ⟨0, Nat.zero_le _, rfl, Lib.hid (fun _ _ _ h => by omega), Below.refl _ _⟩
  case round =>
    obtain ⟨k, hk, rfl, hg, hb⟩ := hrel
    by_cases hlt : k < xs.length
    · have hlt2 : k < ys.length := by have := Hl.out; omega
      obtain ⟨b, off, c0, c1, rfl, -, hbw, hc0, hc1, hd⟩ := RSl.at2 hx k hlt
      obtain ⟨b2, off2, d0, d1, rfl, -, hbw2, hd0, hd1, hd2⟩ := RSl.at2 hy k hlt2
      have hq : ∀ w : World, (binOp .neq 95 (.agg #[c0, c1]) (.agg #[d0, d1])).run Try.prog w = .ok (.bool (!eqSlot xs[k] ys[k])) w := fun w => neqSlot w hd hd2
      obtain ⟨⟨rfl, rfl⟩, -⟩ := hd.open
      obtain ⟨⟨rfl, rfl⟩, -⟩ := hd2.open
      have ec0 := fun p => cell_ext (w := wr) ((Same.of_below (S := Any) hb).cell trivial hc0) p
      have ec1 := fun p => cell_ext (w := wr) ((Same.of_below (S := Any) hb).cell trivial hc1) p
      have ed0 := fun p => cell_ext (w := wr) ((Same.of_below (S := Any) hb).cell trivial hd0) p
      have ed1 := fun p => cell_ext (w := wr) ((Same.of_below (S := Any) hb).cell trivial hd1) p
      clear hc0 hd0 hc1 hd1 hd hd2
      cases he : eqSlot xs[k] ys[k]
      · rw [he] at hq
        have hr := eqL_ne_at (p := eqSlot) k hlt hlt2 he
        have Hr := Lib.hid hr; clear he hr
        go_wp2
        refine wp_region_ext (by kernel_rfl) (by kernel_rfl) ?_
        repeat (go_big_quiet_step (fail))
        refine wpQuiet_nil ?_
        intro _ hw'; obtain ⟨p, rfl⟩ := hw'
        go_wp2
        go_ret
        exact ⟨ret_bool Hr.out.symm, hb.trans ((below_ext wr p).mono hb.size)⟩
      · rw [he] at hq
        have He := Lib.hid he; clear he
        go_wp2
        refine wp_region_ext (by kernel_rfl) (by kernel_rfl) ?_
        repeat (go_big_quiet_step (fail))
        refine wpQuiet_nil ?_
        intro _ hw'; obtain ⟨p, rfl⟩ := hw'
        go_wp2
        refine ⟨⟨k + 1, by omega, by go_num, Lib.hid (fun j h1 h2 hj => ?_), hb.trans ((below_ext wr p).mono hb.size)⟩, by simp [intOf]; omega⟩
        by_cases e : j = k
        · subst e; exact He.out
        · exact hg.out j h1 h2 (by omega)
    · go_wp2
      go_ret
      exact ⟨ret_bool (eqL_of Hl.out (fun j h1 h2 => hg.out j h1 h2 (by omega))).symm, hb⟩

set_option maxHeartbeats 1000000 in
theorem sameSlots (S T : Nat → Prop) (u v : Value) (xs ys : List Slot) (w : World) (hx : RSl S 2 dSlot w u xs) (hy : RSl T 2 dSlot w v ys) :
    Calls Try.prog 32 #[u, v] w fun e w' => e = .returned (.bool (eqL eqSlot xs ys)) ∧ Below w.heap.size w w' := by
  obtain ⟨a1, cap1, rfl, hx1, hx2⟩ := RSl.shape hx
  obtain ⟨a2, cap2, rfl, hy1, hy2⟩ := RSl.shape hy
  by_cases hl : xs.length = ys.length
  case neg =>
    have hl' : ((xs.length : Int) != (ys.length : Int)) = true := by simpa using (by omega : ¬ (xs.length : Int) = ys.length)
    have hr := eqL_ne_len (p := eqSlot) hl
    have Hr := Lib.hid hr; clear hr hl
    go_enter Try.func32, Try.ntmps32
    go_wp2
    go_ret
    exact ⟨ret_bool Hr.out.symm, Below.refl _ _⟩
  have hl' : ((xs.length : Int) != (ys.length : Int)) = false := by simpa using (by omega : (xs.length : Int) = ys.length)
  have Hl := Lib.hid hl; clear hl
  go_enter Try.func32, Try.ntmps32
  go_wp2
  go_loopw [5] (fun i wr => ∃ k : Nat, k ≤ xs.length ∧ i = .int .i64 k ∧ Hid (∀ j (h1 : j < xs.length) (h2 : j < ys.length), j < k → eqSlot xs[j] ys[j] = true) ∧ Below w.heap.size w wr) (fun i _ => xs.length - (intOf i).toNat)
  case atStart => exact ⟨0, Nat.zero_le _, rfl, Lib.hid (fun _ _ _ h => by omega), Below.refl _ _⟩
  case round =>
    obtain ⟨k, hk, rfl, hg, hb⟩ := hrel
    by_cases hlt : k < xs.length
    · have hlt2 : k < ys.length := by have := Hl.out; omega
      obtain ⟨b, off, c0, c1, rfl, -, hbw, hc0, hc1, hd⟩ := RSl.at2 hx k hlt
      obtain ⟨b2, off2, d0, d1, rfl, -, hbw2, hd0, hd1, hd2⟩ := RSl.at2 hy k hlt2
      have hq : ∀ w : World, (binOp .neq 95 (.agg #[c0, c1]) (.agg #[d0, d1])).run Try.prog w = .ok (.bool (!eqSlot xs[k] ys[k])) w := fun w => neqSlot w hd hd2
      obtain ⟨⟨rfl, rfl⟩, -⟩ := hd.open
      obtain ⟨⟨rfl, rfl⟩, -⟩ := hd2.open
      have ec0 := fun p => cell_ext (w := wr) ((Same.of_below (S := Any) hb).cell trivial hc0) p
      have ec1 := fun p => cell_ext (w := wr) ((Same.of_below (S := Any) hb).cell trivial hc1) p
      have ed0 := fun p => cell_ext (w := wr) ((Same.of_below (S := Any) hb).cell trivial hd0) p
      have ed1 := fun p => cell_ext (w := wr) ((Same.of_below (S := Any) hb).cell trivial hd1) p
      clear hc0 hd0 hc1 hd1 hd hd2
      cases he : eqSlot xs[k] ys[k]
      · rw [he] at hq
        have hr := eqL_ne_at (p := eqSlot) k hlt hlt2 he
        have Hr := Lib.hid hr; clear he hr
        go_wp2
        refine wp_region_ext (by kernel_rfl) (by kernel_rfl) ?_
        repeat (go_big_quiet_step (fail))
        refine wpQuiet_nil ?_
        intro _ hw'; obtain ⟨p, rfl⟩ := hw'
        go_wp2
        go_ret
        exact ⟨ret_bool Hr.out.symm, hb.trans ((below_ext wr p).mono hb.size)⟩
      · rw [he] at hq
        have He := Lib.hid he; clear he
        go_wp2
        refine wp_region_ext (by kernel_rfl) (by kernel_rfl) ?_
        repeat (go_big_quiet_step (fail))
        refine wpQuiet_nil ?_
        intro _ hw'; obtain ⟨p, rfl⟩ := hw'
        go_wp2
        refine ⟨⟨k + 1, by omega, by go_num, Lib.hid (fun j h1 h2 hj => ?_), hb.trans ((below_ext wr p).mono hb.size)⟩, by simp [intOf]; omega⟩
        by_cases e : j = k
        · subst e; exact He.out
        · exact hg.out j h1 h2 (by omega)
    · go_wp2
      go_ret
      exact ⟨ret_bool (eqL_of Hl.out (fun j h1 h2 => hg.out j h1 h2 (by omega))).symm, hb⟩

set_option maxHeartbeats 1000000 in
theorem samePlaces (S T : Nat → Prop) (u v : Value) (xs ys : List Place) (w : World) (hx : RSl S 2 dPlace w u xs) (hy : RSl T 2 dPlace w v ys) :
    Calls Try.prog 51 #[u, v] w fun e w' => e = .returned (.bool (eqL eqPlace xs ys)) ∧ Below w.heap.size w w' := by
  obtain ⟨a1, cap1, rfl, hx1, hx2⟩ := RSl.shape hx
  obtain ⟨a2, cap2, rfl, hy1, hy2⟩ := RSl.shape hy
  by_cases hl : xs.length = ys.length
  case neg =>
    have hl' : ((xs.length : Int) != (ys.length : Int)) = true := by simpa using (by omega : ¬ (xs.length : Int) = ys.length)
    have hr := eqL_ne_len (p := eqPlace) hl
    have Hr := Lib.hid hr; clear hr hl
    go_enter Try.func51, Try.ntmps51
    go_wp2
    go_ret
    exact ⟨ret_bool Hr.out.symm, Below.refl _ _⟩
  have hl' : ((xs.length : Int) != (ys.length : Int)) = false := by simpa using (by omega : (xs.length : Int) = ys.length)
  have Hl := Lib.hid hl; clear hl
  go_enter Try.func51, Try.ntmps51
  go_wp2
  go_loopw [5] (fun i wr => ∃ k : Nat, k ≤ xs.length ∧ i = .int .i64 k ∧ Hid (∀ j (h1 : j < xs.length) (h2 : j < ys.length), j < k → eqPlace xs[j] ys[j] = true) ∧ Below w.heap.size w wr) (fun i _ => xs.length - (intOf i).toNat)
  case atStart => exact ⟨0, Nat.zero_le _, rfl, Lib.hid (fun _ _ _ h => by omega), Below.refl _ _⟩
  case round =>
    obtain ⟨k, hk, rfl, hg, hb⟩ := hrel
    by_cases hlt : k < xs.length
    · have hlt2 : k < ys.length := by have := Hl.out; omega
      obtain ⟨b, off, c0, c1, rfl, -, hbw, hc0, hc1, hd⟩ := RSl.at2 hx k hlt
      obtain ⟨b2, off2, d0, d1, rfl, -, hbw2, hd0, hd1, hd2⟩ := RSl.at2 hy k hlt2
      have hq : ∀ w : World, (binOp .neq 111 (.agg #[c0, c1]) (.agg #[d0, d1])).run Try.prog w = .ok (.bool (!eqPlace xs[k] ys[k])) w := fun w => neqPlace w hd hd2
      obtain ⟨⟨rfl, rfl⟩, -⟩ := hd.open
      obtain ⟨⟨rfl, rfl⟩, -⟩ := hd2.open
      have ec0 := fun p => cell_ext (w := wr) ((Same.of_below (S := Any) hb).cell trivial hc0) p
      have ec1 := fun p => cell_ext (w := wr) ((Same.of_below (S := Any) hb).cell trivial hc1) p
      have ed0 := fun p => cell_ext (w := wr) ((Same.of_below (S := Any) hb).cell trivial hd0) p
      have ed1 := fun p => cell_ext (w := wr) ((Same.of_below (S := Any) hb).cell trivial hd1) p
      clear hc0 hd0 hc1 hd1 hd hd2
      cases he : eqPlace xs[k] ys[k]
      · rw [he] at hq
        have hr := eqL_ne_at (p := eqPlace) k hlt hlt2 he
        have Hr := Lib.hid hr; clear he hr
        go_wp2
        refine wp_region_ext (by kernel_rfl) (by kernel_rfl) ?_
        repeat (go_big_quiet_step (fail))
        refine wpQuiet_nil ?_
        intro _ hw'; obtain ⟨p, rfl⟩ := hw'
        go_wp2
        go_ret
        exact ⟨ret_bool Hr.out.symm, hb.trans ((below_ext wr p).mono hb.size)⟩
      · rw [he] at hq
        have He := Lib.hid he; clear he
        go_wp2
        refine wp_region_ext (by kernel_rfl) (by kernel_rfl) ?_
        repeat (go_big_quiet_step (fail))
        refine wpQuiet_nil ?_
        intro _ hw'; obtain ⟨p, rfl⟩ := hw'
        go_wp2
        refine ⟨⟨k + 1, by omega, by go_num, Lib.hid (fun j h1 h2 hj => ?_), hb.trans ((below_ext wr p).mono hb.size)⟩, by simp [intOf]; omega⟩
        by_cases e : j = k
        · subst e; exact He.out
        · exact hg.out j h1 h2 (by omega)
    · go_wp2
      go_ret
      exact ⟨ret_bool (eqL_of Hl.out (fun j h1 h2 => hg.out j h1 h2 (by omega))).symm, hb⟩

set_option maxHeartbeats 1000000 in
set_option maxRecDepth 100000 in
theorem manifest (S : Nat → Prop) (v : Value) (l : List Btc) (w : World) (h : RBtcs S w v l) (hll : l.length ≤ 1000000) :
    Calls Try.prog 33 #[v] w (GivesOwn 95 2 dSlot (maniL l) w) := by
  obtain ⟨a, cap, rfl, h1, h2⟩ := RSl.shape h
  go_enter Try.func33, Try.ntmps33
  go_wp2
  go_loopw [2, 7] (fun s i wr => ∃ k : Nat, k ≤ l.length ∧ i = .int .i64 k ∧ Own w.heap.size 95 2 dSlot wr s (maniL (l.take k)) ∧ Below w.heap.size w wr) (fun _ i _ => l.length - (intOf i).toNat)
  case atStart => exact ⟨0, Nat.zero_le _, rfl, Own.nil _ _ _ _ _, Below.refl _ _⟩
  case round =>
    obtain ⟨k, hk, rfl, ho, hb⟩ := hrel
    obtain ⟨ao, co, hso⟩ := Own.shape ho
    have hsl : (maniL (l.take k)).length = k := by simp [maniL]; omega
    rw [hsl] at hso
    subst hso
    have Hsl := Lib.hid hsl; clear hsl
    by_cases hlt : k < l.length
    · obtain ⟨b, off, c, d, rfl, hS, hbw, hc, hd, hx⟩ := RSl.at2 h k hlt
      obtain ⟨a2, cap2, rfl, rfl, hl1, hnl, -⟩ := hx.open
      have hc := (Same.of_below (S := Any) hb).cell trivial hc
      have hd := (Same.of_below (S := Any) hb).cell trivial hd
      have hz := hb.size
      have hts : maniL (l.take (k + 1)) = maniL (l.take k) ++ [⟨l[k].name, (l[k].blts.length : Int)⟩] := by rw [List.take_succ_eq_append_getElem hlt]; simp only [maniL, List.map_append, List.map_cons, List.map_nil]
      have hnw : Below wr.heap.size wr ((wr.alloc (.cells #[.string l[k].name, .slice a2 l[k].blts.length cap2] 64)).alloc (.cells #[.string l[k].name, .int .i64 l[k].blts.length] 95)) := ((Below.refl _ _).alloc (Nat.le_refl _) _).alloc (by simp) _
      have hOw := Own.below (S := fun _ => False) (dSlot.stable _) ho hnw
      have hlo := fun b hbk => (Own.lt ho b hbk).1
      have hnb : some b ≠ (Value.slice ao k co).ownBlock := fun he => by have := hlo b he.symm; omega
      have Hnb := Lib.hid hnb; clear hnb
      have hbx : ((wr.alloc (.cells #[.string l[k].name, .slice a2 l[k].blts.length cap2] 64)).alloc (.cells #[.string l[k].name, .int .i64 l[k].blts.length] 95)).heap[wr.heap.size + 1]? = some (.cells #[.string l[k].name, .int .i64 l[k].blts.length] 95 (0, 0)) := by simpa using box_new (wr.alloc (.cells #[.string l[k].name, .slice a2 l[k].blts.length cap2] 64)) (.cells #[.string l[k].name, .int .i64 l[k].blts.length] 95)
      have hu : RSl (From 0) 2 dSlot ((wr.alloc (.cells #[.string l[k].name, .slice a2 l[k].blts.length cap2] 64)).alloc (.cells #[.string l[k].name, .int .i64 l[k].blts.length] 95)) (.slice (some ⟨wr.heap.size + 1, 0, none⟩) 1 1) [(⟨l[k].name, (l[k].blts.length : Int)⟩ : Slot)] := RSl.built (w := wr) (cs := [.string l[k].name, .int .i64 l[k].blts.length]) (Nat.zero_le _) hbx rfl ⟨rfl, hnl, wf_len hl1⟩
      have Hts := Lib.hid hts; have HOw := Lib.hid hOw; have Hu := Lib.hid hu; have Hlo := Lib.hid hlo; have Hnw := Lib.hid hnw; clear hts hx ho hOw hu hlo hbx hnw
      go_wp2_with (at_builtin; go_must (refine wpList_app _ Try.infoSlot rfl rfl Try.underlying39 ⟨rfl, by omega, by omega⟩ dSlot.one (dSlot.stable (fun _ => False)) w.heap.size HOw.out rfl Hu.out rfl (by rw [Hsl.out]; simp; omega) (by simp; omega) ?_); intro a1 c1 w1 hg hat ho1; have ho2 := ho1 (fun _ _ h => h.elim); have hb1 := (hb.trans (Hnw.out.mono hz)).grown hg (by simp; omega) Hlo.out; have Ho2 := Lib.hid ho2; have Hg := Lib.hid hg; have Hat := Lib.hid hat; clear ho1 ho2 hg hat)
      exact ⟨⟨k + 1, by omega, by go_num, by have h3 := Ho2.out; rw [List.length_append] at h3; rw [Hts.out]; exact h3, hb1⟩, by simp [intOf]; omega⟩
    · have hk' : k = l.length := by omega
      subst hk'
      have Ho := Lib.hid ho; clear ho
      go_wp2
      go_ret
      exact ⟨_, rfl, by have := Ho.out; rwa [List.take_length] at this, hb⟩

set_option maxHeartbeats 1000000 in
set_option maxRecDepth 100000 in
theorem refManifest (S : Nat → Prop) (v : Value) (l : List Btc) (w : World) (h : RBtcs S w v l) (hll : l.length ≤ 1000000) :
    Calls Try.prog 34 #[v] w (GivesOwn 95 2 dSlot (maniL l) w) := by
  obtain ⟨a, cap, rfl, h1, h2⟩ := RSl.shape h
  go_enter Try.func34, Try.ntmps34
  go_wp2
  go_loopw [3, 4] (fun s i wr => ∃ k : Nat, k ≤ l.length ∧ i = .int .i64 k ∧ Own w.heap.size 95 2 dSlot wr s (maniL (l.take k)) ∧ Below w.heap.size w wr) (fun _ i _ => l.length - (intOf i).toNat)
  case atStart => exact ⟨0, Nat.zero_le _, rfl, Own.nil _ _ _ _ _, Below.refl _ _⟩
  case round =>
    obtain ⟨k, hk, rfl, ho, hb⟩ := hrel
    obtain ⟨ao, co, hso⟩ := Own.shape ho
    have hsl : (maniL (l.take k)).length = k := by simp [maniL]; omega
    rw [hsl] at hso
    subst hso
    have Hsl := Lib.hid hsl; clear hsl
    by_cases hlt : k < l.length
    · obtain ⟨b, off, c, d, rfl, hS, hbw, hc, hd, hx⟩ := RSl.at2 h k hlt
      obtain ⟨a2, cap2, rfl, rfl, hl1, hnl, -⟩ := hx.open
      have hc := (Same.of_below (S := Any) hb).cell trivial hc
      have hd := (Same.of_below (S := Any) hb).cell trivial hd
      have hz := hb.size
      have hts : maniL (l.take (k + 1)) = maniL (l.take k) ++ [⟨l[k].name, (l[k].blts.length : Int)⟩] := by rw [List.take_succ_eq_append_getElem hlt]; simp only [maniL, List.map_append, List.map_cons, List.map_nil]
      have hnw : Below wr.heap.size wr (wr.drew.alloc (.cells #[.string l[k].name, .int .i64 l[k].blts.length] 95)) := (Below.drew (Below.refl _ _)).alloc (Nat.le_refl _) _
      have hOw := Own.below (S := fun _ => False) (dSlot.stable _) ho hnw
      have hlo := fun b hbk => (Own.lt ho b hbk).1
      have hnb : some b ≠ (Value.slice ao k co).ownBlock := fun he => by have := hlo b he.symm; omega
      have Hnb := Lib.hid hnb; clear hnb
      have hbx : (wr.drew.alloc (.cells #[.string l[k].name, .int .i64 l[k].blts.length] 95)).heap[wr.heap.size]? = some (.cells #[.string l[k].name, .int .i64 l[k].blts.length] 95 (0, 0)) := box_new wr.drew _
      have hu : RSl (From 0) 2 dSlot (wr.drew.alloc (.cells #[.string l[k].name, .int .i64 l[k].blts.length] 95)) (.slice (some ⟨wr.heap.size, 0, none⟩) 1 1) [(⟨l[k].name, (l[k].blts.length : Int)⟩ : Slot)] := RSl.built (w := wr) (cs := [.string l[k].name, .int .i64 l[k].blts.length]) (Nat.zero_le _) hbx rfl ⟨rfl, hnl, wf_len hl1⟩
      have Hts := Lib.hid hts; have HOw := Lib.hid hOw; have Hu := Lib.hid hu; have Hlo := Lib.hid hlo; have Hnw := Lib.hid hnw; clear hts hx ho hOw hu hlo hbx hnw
      go_wp2
      go_region_held3 (fun w' => w'.cell? ⟨b, off + k * 2, none⟩ = some (.string l[k].name) ∧ w'.cell? ⟨b, off + k * 2 + 1, none⟩ = some (.slice a2 l[k].blts.length cap2))
        (first
          | go_keep
          | (go_split_ands
             refine ⟨?_, ?_⟩
             · exact hg.cell (by assumption) (Hnb.out)
             · exact hg.cell (by assumption) (Hnb.out)))
        ((refine step_app _ Try.infoSlot rfl rfl Try.underlying39 ⟨rfl, by omega, by omega⟩ dSlot.one (dSlot.stable (fun _ => False)) w.heap.size HOw.out rfl Hu.out rfl (by rw [Hsl.out]; simp; omega) (by simp; omega) ?_; intro a1 c1 w1 hg hat ho1))
      have ho2 := ho1 (fun _ _ h => h.elim)
      have hb1 := (hb.trans (Hnw.out.mono hz)).grown hg (by simp; omega) Hlo.out
      have Ho2 := Lib.hid ho2; have Hg := Lib.hid hg; have Hat := Lib.hid hat; clear ho1 ho2 hg hat
      go_wp2
      exact ⟨⟨k + 1, by omega, by go_num, by have h3 := Ho2.out; rw [List.length_append] at h3; rw [Hts.out]; exact h3, hb1⟩, by simp [intOf]; omega⟩
    · have hk' : k = l.length := by omega
      subst hk'
      have Ho := Lib.hid ho; clear ho
      go_wp2
      go_ret
      exact ⟨_, rfl, by have := Ho.out; rwa [List.take_length] at this, hb⟩

end Go.Proofs.Ytkjgddcjhikdgaa
