/- The contracts of record.Sizes and of the reference's Sizes. -/
import Derived.Test.YtkjgddcjhikdgaaPutR
namespace Go.Proofs.Ytkjgddcjhikdgaa
open Go Go.RowKit Go.Shelf

theorem twin_reads {base : Nat} {w : World} {v : Value} {ys : List Sp} {l : List Btc} (h : Twinned base w v ys) (hy : ys.map (·.x) = l) (hsm : Small l) : WBtcs (Span base w.heap.size) w v l := by
  have := Twinned.wsl h (by have := congrArg List.length hy; have := hsm.1; simp at *; omega)
  rwa [hy] at this
theorem wf_i64 {x : Int} (h : (Lit.int .i64 x).wf = true) : -9223372036854775808 ≤ x ∧ x ≤ 9223372036854775807 := by
  simp [Lit.wf, IntKind.min, IntKind.max, IntKind.bits, IntKind.signed] at h
  omega
def sizesL (l : List Btc) : List Int := l.map fun x => (x.blts.length : Int)
theorem wf_len {n : Nat} (h : n ≤ 140737488355328) : (Lit.int .i64 (n : Int)).wf = true := by
  simp [Lit.wf, IntKind.min, IntKind.max, IntKind.bits, IntKind.signed]
  omega

set_option maxHeartbeats 1000000 in
theorem recordSizes (S : Nat → Prop) (v : Value) (l : List Btc) (w : World) (h : RBtcs S w v l) (hsm : Small l) :
    Calls Try.prog 42 #[v] w (GivesOwn 3 1 (dInt .i64) (sizesL l) w) := by
  obtain ⟨a, cap, rfl, h1, h2⟩ := RSl.shape h
  have hll : l.length ≤ 1000000 := hsm.1
  go_enter Try.func42, Try.ntmps42
  go_wp2
  go_loopw [2, 7] (fun s i wr => ∃ k : Nat, k ≤ l.length ∧ i = .int .i64 k ∧ Own w.heap.size 3 1 (dInt .i64) wr s (sizesL (l.take k)) ∧ Below w.heap.size w wr) (fun _ i _ => l.length - (intOf i).toNat)
  case atStart => exact ⟨0, Nat.zero_le _, rfl, Own.nil _ _ _ _ _, Below.refl _ _⟩
  case round =>
    obtain ⟨k, hk, rfl, ho, hb⟩ := hrel
    obtain ⟨ao, co, hso⟩ := Own.shape ho
    have hsl : (sizesL (l.take k)).length = k := by simp [sizesL]; omega
    rw [hsl] at hso
    subst hso
    have Hsl := Lib.hid hsl; clear hsl
    by_cases hlt : k < l.length
    · obtain ⟨b, off, c, d, rfl, hS, hbw, hc, hd, hx⟩ := RSl.at2 (h.same (.of_below hb)) k hlt
      obtain ⟨a2, cap2, rfl, rfl, hl1, -, -⟩ := hx.open
      have hz := hb.size
      have hbl : l[k].blts.length ≤ 1000000 := (hsm.2 _ (List.getElem_mem hlt)).1
      have hts : sizesL (l.take (k + 1)) = sizesL (l.take k) ++ [(l[k].blts.length : Int)] := by rw [List.take_succ_eq_append_getElem hlt]; simp only [sizesL, List.map_append, List.map_cons, List.map_nil]
      have hnw : Below wr.heap.size wr ((wr.alloc (.cells #[.string l[k].name, .slice a2 l[k].blts.length cap2] 64)).alloc (.cells #[.int .i64 l[k].blts.length] 3)) := ((Below.refl _ _).alloc (Nat.le_refl _) _).alloc (by simp) _
      have hOw := Own.below (S := fun _ => False) (dInt.stable _ _) ho hnw
      have hlo := fun b hbk => (Own.lt ho b hbk).1
      have hbx : ((wr.alloc (.cells #[.string l[k].name, .slice a2 l[k].blts.length cap2] 64)).alloc (.cells #[.int .i64 l[k].blts.length] 3)).heap[wr.heap.size + 1]? = some (.cells #[.int .i64 l[k].blts.length] 3 (0, 0)) := by simpa using box_new (wr.alloc (.cells #[.string l[k].name, .slice a2 l[k].blts.length cap2] 64)) (.cells #[.int .i64 l[k].blts.length] 3)
      have hu : RSl (From 0) 1 (dInt .i64) ((wr.alloc (.cells #[.string l[k].name, .slice a2 l[k].blts.length cap2] 64)).alloc (.cells #[.int .i64 l[k].blts.length] 3)) (.slice (some ⟨wr.heap.size + 1, 0, none⟩) 1 1) [(l[k].blts.length : Int)] := RSl.built (Nat.zero_le _) hbx rfl ⟨rfl, wf_len hl1⟩
      have Hts := Lib.hid hts; have HOw := Lib.hid hOw; have Hu := Lib.hid hu; have Hlo := Lib.hid hlo; have Hnw := Lib.hid hnw; clear hts hx ho hOw hu hlo hbx hnw
      go_wp2_with (at_builtin; go_must (refine wpList_app _ Try.infoInt rfl rfl Try.underlying23 ⟨rfl, by omega, by omega⟩ (dInt.one _) (dInt.stable (fun _ => False) _) w.heap.size HOw.out rfl Hu.out rfl (by rw [Hsl.out]; simp; omega) (by simp; omega) ?_); intro a1 c1 w1 hg hat ho1; have ho2 := ho1 (fun _ _ h => h.elim); have hb1 := (hb.trans (Hnw.out.mono hz)).grown hg (by simp; omega) Hlo.out; have Ho2 := Lib.hid ho2; have Hg := Lib.hid hg; have Hat := Lib.hid hat; clear ho1 ho2 hg hat)
      exact ⟨⟨k + 1, by omega, by go_num, by have h3 := Ho2.out; rw [List.length_append] at h3; rw [Hts.out]; exact h3, hb1⟩, by simp [intOf]; omega⟩
    · have hk' : k = l.length := by omega
      subst hk'
      have Ho := Lib.hid ho; clear ho
      go_wp2
      go_ret
      exact ⟨_, rfl, by have := Ho.out; rwa [List.take_length] at this, hb⟩

set_option maxHeartbeats 1000000 in
theorem refSizes (S : Nat → Prop) (v : Value) (l : List Btc) (w : World) (h : RBtcs S w v l) (hsm : Small l) :
    Calls Try.prog 43 #[v] w (GivesOwn 3 1 (dInt .i64) (sizesL l) w) := by
  obtain ⟨a, cap, rfl, h1, h2⟩ := RSl.shape h
  have hll : l.length ≤ 1000000 := hsm.1
  go_enter Try.func43, Try.ntmps43
  go_wp2
  go_loopw [3, 4] (fun s i wr => ∃ k : Nat, k ≤ l.length ∧ i = .int .i64 k ∧ Own w.heap.size 3 1 (dInt .i64) wr s (sizesL (l.take k)) ∧ Below w.heap.size w wr) (fun _ i _ => l.length - (intOf i).toNat)
  case atStart => exact ⟨0, Nat.zero_le _, rfl, Own.nil _ _ _ _ _, Below.refl _ _⟩
  case round =>
    obtain ⟨k, hk, rfl, ho, hb⟩ := hrel
    obtain ⟨ao, co, hso⟩ := Own.shape ho
    have hsl : (sizesL (l.take k)).length = k := by simp [sizesL]; omega
    rw [hsl] at hso
    subst hso
    have Hsl := Lib.hid hsl; clear hsl
    by_cases hlt : k < l.length
    · obtain ⟨b, off, c, d, rfl, hS, hbw, hc, hd, hx⟩ := RSl.at2 (h.same (.of_below hb)) k hlt
      obtain ⟨a2, cap2, rfl, rfl, hl1, -, -⟩ := hx.open
      have hz := hb.size
      have hbl : l[k].blts.length ≤ 1000000 := (hsm.2 _ (List.getElem_mem hlt)).1
      have hts : sizesL (l.take (k + 1)) = sizesL (l.take k) ++ [(l[k].blts.length : Int)] := by rw [List.take_succ_eq_append_getElem hlt]; simp only [sizesL, List.map_append, List.map_cons, List.map_nil]
      have hnw : Below wr.heap.size wr (wr.alloc (.cells #[.int .i64 l[k].blts.length] 3)) := (Below.refl _ _).alloc (Nat.le_refl _) _
      have hOw := Own.below (S := fun _ => False) (dInt.stable _ _) ho hnw
      have hlo := fun b hbk => (Own.lt ho b hbk).1
      have hbx : (wr.alloc (.cells #[.int .i64 l[k].blts.length] 3)).heap[wr.heap.size]? = some (.cells #[.int .i64 l[k].blts.length] 3 (0, 0)) := box_new _ _
      have hu : RSl (From 0) 1 (dInt .i64) (wr.alloc (.cells #[.int .i64 l[k].blts.length] 3)) (.slice (some ⟨wr.heap.size, 0, none⟩) 1 1) [(l[k].blts.length : Int)] := RSl.built (Nat.zero_le _) hbx rfl ⟨rfl, wf_len hl1⟩
      have Hts := Lib.hid hts; have HOw := Lib.hid hOw; have Hu := Lib.hid hu; have Hlo := Lib.hid hlo; have Hnw := Lib.hid hnw; clear hts hx ho hOw hu hlo hbx hnw
      go_wp2_with (at_builtin; go_must (refine wpList_app _ Try.infoInt rfl rfl Try.underlying23 ⟨rfl, by omega, by omega⟩ (dInt.one _) (dInt.stable (fun _ => False) _) w.heap.size HOw.out rfl Hu.out rfl (by rw [Hsl.out]; simp; omega) (by simp; omega) ?_); intro a1 c1 w1 hg hat ho1; have ho2 := ho1 (fun _ _ h => h.elim); have hb1 := (hb.trans (Hnw.out.mono hz)).grown hg (by simp; omega) Hlo.out; have Ho2 := Lib.hid ho2; have Hg := Lib.hid hg; have Hat := Lib.hid hat; clear ho1 ho2 hg hat)
      exact ⟨⟨k + 1, by omega, by go_num, by have h3 := Ho2.out; rw [List.length_append] at h3; rw [Hts.out]; exact h3, hb1⟩, by simp [intOf]; omega⟩
    · have hk' : k = l.length := by omega
      subst hk'
      have Ho := Lib.hid ho; clear ho
      go_wp2
      go_ret
      exact ⟨_, rfl, by have := Ho.out; rwa [List.take_length] at this, hb⟩

end Go.Proofs.Ytkjgddcjhikdgaa
