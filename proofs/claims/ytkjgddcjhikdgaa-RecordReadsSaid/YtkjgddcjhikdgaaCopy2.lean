/- The contracts of the copies of one ballot. -/
import Derived.Test.YtkjgddcjhikdgaaCopy
namespace Go.Proofs.Ytkjgddcjhikdgaa
open Go Go.RowKit

theorem cloneInts2 (S : Nat → Prop) (v : Value) (xs : List Int) (w : World) (h : RInts S w v xs) (hl : xs.length ≤ 1000000000) :
    Calls Try.prog 125 #[v] w fun e w' => ∃ a c, e = .returned (.slice a xs.length c) ∧ WSl (From w.heap.size) 1 (dInt .i64) w' (.slice a xs.length c) xs ∧ Below w.heap.size w w' :=
  (cloneInts S v xs w h hl).mono fun e w' ⟨v', he, hv, hb⟩ => by
    obtain ⟨a, c, rfl⟩ := Own.shape hv
    obtain ⟨_, _, _, _, hl2⟩ := RSl.shape h
    exact ⟨a, c, he, Own.wsl hv hl2, hb⟩

set_option maxHeartbeats 400000 in
theorem copied (S : Nat → Prop) (v : Value) (x : Blt) (w : World) (h : VBlt S w v x) (hl : x.marks.length ≤ 1000000000) :
    Calls Try.prog 73 #[v] w (GivesBlt x w) := by
  obtain ⟨c, d, rfl, h⟩ := h
  obtain ⟨a, cap, rfl, rfl, hl', hk1, hk2, h⟩ := h.open
  have hb0 : Below w.heap.size w ((w.alloc (.cells #[.int .u8 x.kind, .slice a x.marks.length cap] 25)).alloc (.cells #[.int .u8 0, .slice none 0 0] 25)) :=
    ((Below.refl _ _).alloc (Nat.le_refl _) _).alloc (by simp) _
  have h' := h.same (.of_below hb0)
  have hgA : ((w.alloc (.cells #[.int .u8 x.kind, .slice a x.marks.length cap] 25)).alloc (.cells #[.int .u8 0, .slice none 0 0] 25)).heap[w.heap.size]? = some (.cells #[.int .u8 x.kind, .slice a x.marks.length cap] 25 (0, 0)) := box_old _ (box_new _ _)
  have hgB : ((w.alloc (.cells #[.int .u8 x.kind, .slice a x.marks.length cap] 25)).alloc (.cells #[.int .u8 0, .slice none 0 0] 25)).heap[w.heap.size + 1]? = some (.cells #[.int .u8 0, .slice none 0 0] 25 (0, 0)) := by simpa using box_new (w.alloc (.cells #[.int .u8 x.kind, .slice a x.marks.length cap] 25)) (.cells #[.int .u8 0, .slice none 0 0] 25)
  go_enter Try.func73, Try.ntmps73
  go_wp2_with (go_at_call 125; refine (cloneInts2 S _ x.marks _ h' hl).mono ?_; rintro e w1 ⟨a1, c1, rfl, hv1, hb1⟩; obtain ⟨g1, hc1, hf1⟩ := own_box hb1 (by simp; omega) hgA; obtain ⟨g2, hc2, hf2⟩ := own_box hb1 (by simp) hgB; have hz1 := hb1.size; simp at hz1)
  refine bodyPost_ret (v := .agg #[.int .u8 x.kind, .slice a1 x.marks.length c1]) (by simp [results, Try.results73, go_sem, hc2]) rfl ⟨_, rfl, ⟨_, _, rfl, _, rfl, hk1, hk2, ?_⟩, ?_⟩
  · refine WSl.mono (S := From (w.heap.size + 2)) (fun _ _ _ h => h) (fun b hb => by simp [From] at hb ⊢; omega) (WSl.same (dInt.stable _ _) ?_ (WSl.mono (T := From (w.heap.size + 2)) (fun _ _ _ h => h) (fun b hb => by simp [From] at hb ⊢; omega) hv1))
    exact (((Same.refl _ _).setCell (by simp [From]) _).setCell (by simp [From]) _).setCell (by simp [From]) _
  · exact (((hb0.trans (hb1.mono (by simp; omega))).setCell (p := ⟨w.heap.size, 1, none⟩) (Nat.le_refl _) _).setCell (p := ⟨w.heap.size + 1, 0, none⟩) (by simp) _).setCell (p := ⟨w.heap.size + 1, 1, none⟩) (by simp) _
set_option maxHeartbeats 400000 in
theorem copyRef (S : Nat → Prop) (v : Value) (x : Blt) (w : World) (h : VBlt S w v x) (hl : x.marks.length ≤ 1000000000) :
    Calls Try.prog 21 #[v] w (GivesBlt x w) := by
  obtain ⟨c, d, rfl, h⟩ := h
  obtain ⟨a, cap, rfl, rfl, hl', hk1, hk2, h⟩ := h.open
  have hb0 : Below w.heap.size w ((w.alloc (.cells #[.int .u8 x.kind, .slice a x.marks.length cap] 25)).alloc (.cells #[.int .u8 0, .slice none 0 0] 25)) :=
    ((Below.refl _ _).alloc (Nat.le_refl _) _).alloc (by simp) _
  have hb00 := hb0.alloc (by simp; omega) (.cells #[] 3)
  have h' := h.same (.of_below hb00)
  have hg3 : (((w.alloc (.cells #[.int .u8 x.kind, .slice a x.marks.length cap] 25)).alloc (.cells #[.int .u8 0, .slice none 0 0] 25)).alloc (.cells #[] 3)).heap[w.heap.size + 1 + 1]? = some (.cells #[] 3 (0, 0)) := by simpa using box_new ((w.alloc (.cells #[.int .u8 x.kind, .slice a x.marks.length cap] 25)).alloc (.cells #[.int .u8 0, .slice none 0 0] 25)) (.cells #[] 3)
  have hgA : ((w.alloc (.cells #[.int .u8 x.kind, .slice a x.marks.length cap] 25)).alloc (.cells #[.int .u8 0, .slice none 0 0] 25)).heap[w.heap.size]? = some (.cells #[.int .u8 x.kind, .slice a x.marks.length cap] 25 (0, 0)) := box_old _ (box_new _ _)
  have hgB : ((w.alloc (.cells #[.int .u8 x.kind, .slice a x.marks.length cap] 25)).alloc (.cells #[.int .u8 0, .slice none 0 0] 25)).heap[w.heap.size + 1]? = some (.cells #[.int .u8 0, .slice none 0 0] 25 (0, 0)) := by simpa using box_new (w.alloc (.cells #[.int .u8 x.kind, .slice a x.marks.length cap] 25)) (.cells #[.int .u8 0, .slice none 0 0] 25)
  go_enter Try.func21, Try.ntmps21
  go_wp2_with (at_builtin; go_must (refine wpList_app _ Try.infoInt rfl rfl Try.underlying23 ⟨rfl, by omega, by omega⟩ (dInt.one _) (dInt.stable (fun _ => False) _) (w.heap.size + 2) (Own.fresh _ _ _ _ 0 hg3 (by omega) (by simp [maxLen]) rfl) rfl h' rfl (by simp; omega) (by simp) ?_); go_must (intro a1 c1 w1 hg hat ho; have hb1 : Below (w.heap.size + 2) _ w1 := (((Below.refl _ _).alloc (Nat.le_of_eq (by simp)) _).grown hg (by simp) (by simp [Value.ownBlock])); obtain ⟨g1, hc1, hf1⟩ := own_box hb1 (by omega) hgA; obtain ⟨g2, hc2, hf2⟩ := own_box hb1 (by omega) hgB; have hz1 := hb1.size; simp at hz1))
  have hv1 := Own.wsl (ho (fun _ _ h => h.elim)) (by simpa using hl')
  simp only [List.nil_append] at hv1
  refine bodyPost_ret (v := .agg #[.int .u8 x.kind, .slice a1 x.marks.length c1]) (by simp [results, Try.results21, go_sem, hc2]) rfl ⟨_, rfl, ⟨_, _, rfl, _, rfl, hk1, hk2, ?_⟩, ?_⟩
  · refine WSl.mono (S := From (w.heap.size + 2)) (fun _ _ _ h => h) (fun b hb => by simp [From] at hb ⊢; omega) (WSl.same (dInt.stable _ _) ?_ hv1)
    exact (((Same.refl _ _).setCell (by simp [From]) _).setCell (by simp [From]) _).setCell (by simp [From]) _
  · exact (((hb0.trans (hb1.mono (by omega))).setCell (p := ⟨w.heap.size, 1, none⟩) (Nat.le_refl _) _).setCell (p := ⟨w.heap.size + 1, 0, none⟩) (by simp) _).setCell (p := ⟨w.heap.size + 1, 1, none⟩) (by simp) _
end Go.Proofs.Ytkjgddcjhikdgaa
