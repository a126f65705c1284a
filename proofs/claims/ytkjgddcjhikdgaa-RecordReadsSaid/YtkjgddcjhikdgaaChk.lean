/- The contracts of the row's may, of record.place and of record.Check. -/
import Derived.Test.YtkjgddcjhikdgaaFits
import Derived.Test.YtkjgddcjhikdgaaQuiet
namespace Go.Proofs.Ytkjgddcjhikdgaa
open Go Go.RowKit Go.Shelf

set_option maxHeartbeats 400000 in
theorem may1 (S : Nat → Prop) (B : Nat) (c0 c1 v : Value) (x : Blt) (c kind : Int) (w : World) (h : VBlt S w v x) (hB : w.heap[B]? = some (.cells #[c0, c1, .int .i64 c, .int .u8 kind] 121 (0, 0))) :
    Calls Try.prog 121 #[v, .pointer (some ⟨B, 0, none⟩)] w fun e w' => e = .returned (.bool (!fitsB x c kind)) ∧ Below w.heap.size w w' := by
  have h0 := h
  obtain ⟨cc, d, rfl, hB'⟩ := h
  obtain ⟨a, cap, rfl, rfl, hl, -, -, -⟩ := hB'.open
  have hb0 : Below w.heap.size w (w.alloc (.cells #[.int .u8 x.kind, .slice a x.marks.length cap] 25)) := (Below.refl _ _).alloc (Nat.le_refl _) _
  have hF := fits S c0 c1 _ x c kind _ (h0.same (.of_below hb0))
  have HF := Lib.hid hF; clear hF
  obtain ⟨g1, hc1, hf1⟩ := own_box hb0 (size_of_box hB) hB
  have hB1 := size_of_box hB
  obtain ⟨g0, hc0, hf0⟩ := own_box (Below.refl w.heap.size w) (size_of_box hB) hB
  clear g0 g1 hB hc1
  go_enter Try.func121, Try.ntmps121
  go_wp2_with (go_at_call 71; refine HF.out.mono ?_; rintro e w1 ⟨rfl, hb1⟩)
  go_ret
  exact ⟨rfl, hb0.trans (hb1.mono (by simp))⟩

/-- A valid batch: 'may'. -/
def mayB (x : Btc) (c kind : Int) : Bool := nameB x.name && !x.blts.any fun b => !fitsB b c kind

set_option maxHeartbeats 400000 in
theorem may (S : Nat → Prop) (c0 c1 : Value) (x : Btc) (c kind : Int) (w : World) (h : dBtc S w [c0, c1] x) :
    Calls Try.prog 70 #[.agg #[c0, c1, .int .i64 c, .int .u8 kind]] w fun e w' => e = .returned (.bool (mayB x c kind)) ∧ Below w.heap.size w w' := by
  obtain ⟨a, cap, rfl, rfl, hl, hn, hI⟩ := h.open
  have hb0 : Below w.heap.size w (w.alloc (.cells #[.string x.name, .slice a x.blts.length cap, .int .i64 c, .int .u8 kind] 121)) := (Below.refl _ _).alloc (Nat.le_refl _) _
  have hbox : (w.alloc (.cells #[.string x.name, .slice a x.blts.length cap, .int .i64 c, .int .u8 kind] 121)).heap[w.heap.size]? = some (.cells #[.string x.name, .slice a x.blts.length cap, .int .i64 c, .int .u8 kind] 121 (0, 0)) := box_new _ _
  have hN := named x.name (w.alloc (.cells #[.string x.name, .slice a x.blts.length cap, .int .i64 c, .int .u8 kind] 121)) hn
  have HN := Lib.hid hN; clear hN
  have hC : ∀ w1, Below (w.heap.size + 1) (w.alloc (.cells #[.string x.name, .slice a x.blts.length cap, .int .i64 c, .int .u8 kind] 121)) w1 →
      Calls Try.prog 120 #[.slice a x.blts.length cap, .func (.func 121) #[] #[.pointer (some ⟨w.heap.size, 0, none⟩)]] w1 fun e w' => e = .returned (.bool (x.blts.any fun b => !fitsB b c kind)) ∧ Below w1.heap.size w1 w' := by
    intro w1 hb1
    refine containsBlt S _ x.blts w1 (hI.same (.of_below (hb0.trans (hb1.mono (by omega))))) _ _ (enters_of Try.func121 (by kernel_rfl) rfl) _ ?_
    intro W y d0 d1 hW hy
    exact may1 S w.heap.size _ _ _ y c kind W ⟨d0, d1, rfl, hy⟩ (own_box (hb1.trans (hW.mono (by have := hb1.size; simpa using this))) (by omega) hbox).1
  have HC := Lib.hid hC; clear hC hI
  go_enter Try.func70, Try.ntmps70
  go_wp2_with (first | (go_at_call 119; refine HN.out.mono ?_; rintro e w1 ⟨rfl, hb1⟩; obtain ⟨g1, hc1, hf1⟩ := own_box hb1 (by simp) hbox; have hz1 : w.heap.size < w1.heap.size := by (have := hb1.size; simp at this; omega)) | (go_at_call 120; refine (HC.out _ (by simpa using hb1)).mono ?_; rintro e w2 ⟨rfl, hb2⟩))
  · have hn' : nameB x.name = true := by assumption
    go_ret
    exact ⟨ret_bool (by rw [mayB, hn', Bool.true_and]), hb0.trans ((hb1.trans (hb2.mono (by simpa using hb1.size))).mono (by simp))⟩
  · have hn' : nameB x.name = false := by rw [← Bool.not_eq_true]; assumption
    go_ret
    exact ⟨ret_bool (by rw [mayB, hn', Bool.false_and]), hb0.trans (hb1.mono (by simp))⟩
/-- Equal names. -/
def sameName (a b : ByteArray) : Bool := a.toList == b.toList

set_option maxHeartbeats 400000 in
theorem place1 (S : Nat → Prop) (B : Nat) (c d : Value) (x : Btc) (nm : ByteArray) (w : World) (h : dBtc S w [c, d] x) (hB : w.heap[B]? = some (.cells #[.string nm] 9 (0, 0))) :
    Calls Try.prog 124 #[.agg #[c, d], .pointer (some ⟨B, 0, none⟩)] w fun e w' => e = .returned (.bool (sameName x.name nm)) ∧ Below w.heap.size w w' := by
  obtain ⟨a, cap, rfl, rfl, hl, hn, hI⟩ := h.open
  obtain ⟨g0, hc0, hf0⟩ := own_box (Below.refl w.heap.size w) (size_of_box hB) hB
  have hB1 := size_of_box hB
  clear g0 hB
  go_enter Try.func124, Try.ntmps124
  go_wp2
  go_ret
  exact ⟨rfl, (Below.refl _ _).alloc (Nat.le_refl _) _⟩

set_option maxHeartbeats 400000 in
theorem place (S : Nat → Prop) (v : Value) (xs : List Btc) (nm : ByteArray) (w : World) (h : RBtcs S w v xs) :
    Calls Try.prog 72 #[v, .string nm] w fun e w' => e = .returned (.int .i64 (idxB (fun b => sameName b.name nm) xs)) ∧ Below w.heap.size w w' := by
  have hb0 : Below w.heap.size w (w.alloc (.cells #[.string nm] 9)) := (Below.refl _ _).alloc (Nat.le_refl _) _
  have hbox : (w.alloc (.cells #[.string nm] 9)).heap[w.heap.size]? = some (.cells #[.string nm] 9 (0, 0)) := box_new _ _
  have hI := indexBtc S v xs _ (h.same (.of_below hb0)) 124 #[.pointer (some ⟨w.heap.size, 0, none⟩)] (enters_of Try.func124 (by kernel_rfl) rfl) (fun b => sameName b.name nm)
    (fun W x c d hW hx => place1 S w.heap.size c d x nm W hx (own_box hW (by simp) hbox).1)
  have HI := Lib.hid hI; clear hI
  obtain ⟨a, cap, rfl, h1, h2⟩ := RSl.shape h
  obtain ⟨I, hIx⟩ : ∃ I, idxB (fun b : Btc => sameName b.name nm) xs = I := ⟨_, rfl⟩
  rw [hIx] at HI ⊢
  go_enter Try.func72, Try.ntmps72
  go_wp2_with (go_at_call 123; refine HI.out.mono ?_; rintro e w1 ⟨rfl, hb1⟩)
  go_ret
  exact ⟨rfl, hb0.trans (hb1.mono (by simp))⟩

set_option maxHeartbeats 400000 in
theorem check1 (S : Nat → Prop) (c d : Value) (x : Btc) (w : World) (h : dBtc S w [c, d] x) :
    Calls Try.prog 83 (#[.agg #[c, d]] ++ #[]) w fun e w' => e = .returned (.bool (decide (64 < x.blts.length))) ∧ Below w.heap.size w w' := by
  obtain ⟨a, cap, rfl, rfl, hl, hn, hI⟩ := h.open
  simp only [Array.append_empty]
  go_enter Try.func83, Try.ntmps83
  go_wp2
  go_ret
  exact ⟨ret_bool (decide_eq_decide.2 (by omega)), (Below.refl _ _).alloc (Nat.le_refl _) _⟩

/-- Batch i is valid, and no earlier one has its name. -/
def okAt (l : List Btc) (c kind : Int) (i : Nat) : Bool :=
  match l[i]? with
  | some b => mayB b c kind && !(l.take i).any fun y => sameName y.name b.name
  | none => true
/-- record.Check's error. -/
def recCheck (l : List Btc) (c kind : Int) : Int :=
  if 1 ≤ c ∧ c ≤ 10 ∧ 1 ≤ kind ∧ kind ≤ 3 then
    if 16 < l.length ∨ l.any (fun b => decide (64 < b.blts.length)) = true then 4
    else if (List.range l.length).all (okAt l c kind) then 0 else 8
  else 2

set_option maxHeartbeats 1000000 in
theorem recordCheck_arg (v : Value) (_ : List Btc) (c kind : Int) (w : World) (hbad : ¬ (1 ≤ c ∧ c ≤ 10 ∧ 1 ≤ kind ∧ kind ≤ 3)) :
    Calls Try.prog 39 #[v, .int .i64 c, .int .u8 kind] w fun e w' => e = .returned (.int .i64 2) ∧ Below w.heap.size w w' := by
  by_cases h1 : c < 1
  · clear hbad
    go_enter Try.func39, Try.ntmps39
    go_wp2
    go_ret
    exact ⟨rfl, Below.refl _ _⟩
  by_cases h2 : 10 < c
  · clear hbad
    go_enter Try.func39, Try.ntmps39
    go_wp2
    go_ret
    exact ⟨rfl, Below.refl _ _⟩
  by_cases h3 : kind < 1
  · clear hbad
    go_enter Try.func39, Try.ntmps39
    go_wp2
    go_ret
    exact ⟨rfl, Below.refl _ _⟩
  have h4 : 3 < kind := by omega
  clear hbad
  go_enter Try.func39, Try.ntmps39
  go_wp2
  go_ret
  exact ⟨rfl, Below.refl _ _⟩

set_option maxHeartbeats 1000000 in
theorem recordCheck_rest (S : Nat → Prop) (v : Value) (l : List Btc) (c kind : Int) (w : World) (h : RBtcs S w v l) (hc1 : 1 ≤ c) (hc2 : c ≤ 10) (hk1 : 1 ≤ kind) (hk2 : kind ≤ 3) :
    Calls Try.prog 39 #[v, .int .i64 c, .int .u8 kind] w fun e w' => e = .returned (.int .i64 (recCheck l c kind)) ∧ Below w.heap.size w w' := by
  have hr : recCheck l c kind = if 16 < l.length ∨ l.any (fun b => decide (64 < b.blts.length)) = true then 4 else if (List.range l.length).all (okAt l c kind) then 0 else 8 := by
    rw [recCheck, if_pos ⟨hc1, hc2, hk1, hk2⟩]
  have hC := containsBtc S v l w h 83 #[] (enters_of Try.func83 (by kernel_rfl) rfl) (fun b => decide (64 < b.blts.length)) (fun W x c d hW hx => check1 S c d x W hx)
  obtain ⟨a, cap, rfl, h1, h2⟩ := RSl.shape h
  by_cases h16 : 16 < l.length
  · rw [if_pos (.inl h16)] at hr
    have Hr := Lib.hid hr; clear hr hC
    go_enter Try.func39, Try.ntmps39
    go_wp2
    go_ret
    exact ⟨ret_int Hr.out.symm, Below.refl _ _⟩
  cases h64 : l.any (fun b => decide (64 < b.blts.length))
  · rw [h64] at hC hr
    rw [if_neg (by simp; omega)] at hr
    have Hr := Lib.hid hr; have HC := Lib.hid hC; have H64 := Lib.hid h64; clear hr hC h64
    go_enter Try.func39, Try.ntmps39
    go_wp2_with (go_at_call 82; refine HC.out.mono ?_; rintro e w1 ⟨rfl, hb1⟩)
    go_loopw [32] (fun i wr => ∃ k : Nat, k ≤ l.length ∧ i = .int .i64 k ∧ Hid ((List.range k).all (okAt l c kind) = true) ∧ Below w.heap.size w wr) (fun i _ => l.length - (intOf i).toNat)
    case atStart => exact ⟨0, Nat.zero_le _, rfl, Lib.hid rfl, hb1⟩
    case round =>
      obtain ⟨k, hk, rfl, hg, hb⟩ := hrel
      by_cases hlt : k < l.length
      · obtain ⟨b, off, c0, d0, rfl, hS, hbw, hc, hd, hx⟩ := RSl.at2 (h.same (.of_below hb)) k hlt
        obtain ⟨a', cap', rfl, rfl, hl1, hl2, -⟩ := hx.open
        have hok : okAt l c kind k = (mayB l[k] c kind && !(l.take k).any fun y => sameName y.name l[k].name) := by simp [okAt, hlt]
        have hw1 : Below wr.heap.size wr (wr.alloc (.cells #[.string l[k].name, .slice a' l[k].blts.length cap'] 64)) := (Below.refl _ _).alloc (Nat.le_refl _) _
        have hbx := box_new wr (.cells #[.string l[k].name, .slice a' l[k].blts.length cap'] 64)
        go_wp2
        obtain ⟨W, hW⟩ : ∃ W, W = wr.alloc (.cells #[.string l[k].name, .slice a' l[k].blts.length cap'] 64) := ⟨_, rfl⟩
        rw [← hW] at hbx hw1 ⊢
        have hbW : Below w.heap.size w W := hb.trans (hw1.mono hb.size)
        have hM := fun p => may S _ _ l[k] c kind (ext W p) (dBtc.stable S _ _ _ _ (.of_below (hw1.trans ((below_ext W p).mono hw1.size))) hx)
        have hP := fun p => place S _ (l.take k) l[k].name (ext W p) (RSl.take (h.same (.of_below (hbW.trans ((below_ext W p).mono hbW.size)))) k hk)
        have e0 := fun p => cell_ext (w := W) (a := ⟨wr.heap.size, 0, none⟩) (v := .string l[k].name) (by simp [World.cell?, hbx]) p
        have e1 := fun p => cell_ext (w := W) (a := ⟨wr.heap.size, 1, none⟩) (v := .slice a' l[k].blts.length cap') (by simp [World.cell?, hbx]) p
        clear hW hc hd hbx
        have hal : okAt l c kind k = false → recCheck l c kind = 8 := fun hf => by
          rw [Hr.out, if_neg]
          intro ha
          have := List.all_eq_true.1 ha k (List.mem_range.2 hlt)
          rw [hf] at this; cases this
        have Hal := Lib.hid hal; clear hal
        cases hm : mayB l[k] c kind
        · rw [hm, Bool.false_and] at hok
          have HM := Lib.hid hM; have Hok := Lib.hid hok; clear hM hok
          rw [hm] at HM; clear hm hP
          refine wp_region_ext (by kernel_rfl) (by kernel_rfl) ?_
          repeat (go_big_quiet_step ((go_at_call 70; have hh := HM.out; exact calls_ext (v := .bool false) (hh _))))
          refine wpQuiet_nil ?_
          intro _ hw'; obtain ⟨p, rfl⟩ := hw'
          go_wp2
          go_ret
          exact ⟨ret_int (Hal.out Hok.out).symm, hbW.trans ((below_ext W p).mono hbW.size)⟩
        · rw [hm, Bool.true_and] at hok
          obtain ⟨I, hI⟩ : ∃ I, idxB (fun b : Btc => sameName b.name l[k].name) (l.take k) = I := ⟨_, rfl⟩
          rw [← idxB_any, hI] at hok
          have HM := Lib.hid hM; have HP := Lib.hid hP; have Hok := Lib.hid hok; clear hM hok hP
          rw [hm] at HM; rw [hI] at HP; clear hm hI
          refine wp_region_ext (by kernel_rfl) (by kernel_rfl) ?_
          repeat (go_big_quiet_step ((first | (go_at_call 70; have hh := HM.out; exact calls_ext (v := .bool true) (hh _)) | (go_at_call 72; have hh := HP.out; exact calls_ext (v := .int .i64 I) (hh _)))))
          refine wpQuiet_nil ?_
          intro _ hw'; obtain ⟨p, rfl⟩ := hw'
          go_wp2
          · have hI : 0 ≤ I := by assumption
            go_ret
            exact ⟨ret_int (Hal.out (by rw [Hok.out, decide_eq_true hI]; rfl)).symm, hbW.trans ((below_ext W p).mono hbW.size)⟩
          · have hI : I < 0 := by assumption
            exact ⟨⟨k + 1, by omega, by go_num, Lib.hid (by rw [List.range_succ, List.all_append, hg.out]; simp [Hok.out]; omega), hbW.trans ((below_ext W p).mono hbW.size)⟩, by simp [intOf]; omega⟩
      · go_wp2
        go_ret
        exact ⟨ret_int (by rw [Hr.out, if_pos]; obtain rfl : k = l.length := by omega
                           exact hg.out), hb⟩
  · rw [h64] at hC hr
    rw [if_pos (.inr rfl)] at hr
    have Hr := Lib.hid hr; have HC := Lib.hid hC; clear hr hC h64
    go_enter Try.func39, Try.ntmps39
    go_wp2_with (go_at_call 82; refine HC.out.mono ?_; rintro e w1 ⟨rfl, hb1⟩)
    go_ret
    exact ⟨ret_int Hr.out.symm, hb1⟩
theorem recordCheck (S : Nat → Prop) (v : Value) (l : List Btc) (c kind : Int) (w : World) (h : RBtcs S w v l) :
    Calls Try.prog 39 #[v, .int .i64 c, .int .u8 kind] w fun e w' => e = .returned (.int .i64 (recCheck l c kind)) ∧ Below w.heap.size w w' := by
  by_cases hb : 1 ≤ c ∧ c ≤ 10 ∧ 1 ≤ kind ∧ kind ≤ 3
  · exact recordCheck_rest S v l c kind w h hb.1 hb.2.1 hb.2.2.1 hb.2.2.2
  · have : recCheck l c kind = 2 := by rw [recCheck, if_neg hb]
    rw [this]
    exact recordCheck_arg v l c kind w hb
end Go.Proofs.Ytkjgddcjhikdgaa
