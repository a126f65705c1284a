/- What the law RecordReads answers. -/
import Derived.Test.YtkjgddcjhikdgaaReadR
import Derived.Test.YtkjgddcjhikdgaaArgB
import Derived.Test.YtkjgddcjhikdgaaLawPuts
namespace Go.Proofs.Ytkjgddcjhikdgaa
open Go Go.RowKit Go.Shelf

def ReadOpen (bt : Btc) (cd kd I : Int) (w : World) (e : Ending) (w' : World) : Prop :=
  ∃ a c, e = .returned (.tuple #[.agg #[.string bt.name, .slice a bt.blts.length c], .int .i64 cd, .int .u8 kd, .int .i64 I]) ∧ RBlts Any w' (.slice a bt.blts.length c) bt.blts ∧ Below w.heap.size w w'
theorem ReadOpen.of {xs : List Int} {bt : Btc} {cd kd I : Int} {w w' : World} {e : Ending} (hI : readI xs = I) (hV : readV xs = (bt, cd, kd)) (h : ReadGives xs w e w') : ReadOpen bt cd kd I w e w' := by
  obtain ⟨a, c, h1, h2, h3⟩ := h
  rw [hV, hI] at h1
  rw [hV] at h2
  exact ⟨a, c, h1, h2, h3⟩
theorem readName_le (xs : List Int) : (readV xs).1.name.size ≤ 16384 := by
  unfold readV
  split
  · simp only [btcOf, strOfNums_size]
    by_cases h : 0 < (splitV xs).length
    · rw [List.getD, List.getElem?_eq_getElem h]
      exact splitV_each xs _ (List.getElem_mem h)
    · rw [List.getD, List.getElem?_eq_none (by omega)]; simp
  · exact Nat.zero_le _
theorem rbtc_one {W : World} {g : Nat} {name : ByteArray} {a : Option Addr} {n c : Nat} {l : List Blt} {e : TypeId} (hg : W.heap[g]? = some (.cells #[.string name, .slice a n c] e (0, 0))) (hn : name.size ≤ 140737488355328) (hr : RBlts Any W (.slice a n c) l) :
    RBtcs Any W (.slice (some ⟨g, 0, none⟩) 1 1) [(⟨name, l⟩ : Btc)] :=
  RSl.mono (fun _ _ _ h => h) (fun _ _ => trivial) (RSl.built (lo := 0) (cs := [.string name, .slice a n c]) (w' := W) (Nat.zero_le _) hg rfl (⟨.slice a n c, rfl, hn, hr⟩ : dBtc Any W [.string name, .slice a n c] (⟨name, l⟩ : Btc)))
/-- The two batches as lists of one, in new memory. -/
theorem w4_facts {w3 : World} {bn : ByteArray} {a2 a3 : Option Addr} {n2 n3 c2 c3 : Nat} {l : List Blt} (hn : bn.size ≤ 140737488355328) (h2 : RBlts Any w3 (.slice a2 n2 c2) l) (h3 : RBlts Any w3 (.slice a3 n3 c3) l) :
    Below w3.heap.size w3 (((w3.alloc (.cells #[.string bn, .slice a3 n3 c3] 64)).alloc (.cells #[.string bn, .slice a2 n2 c2] 64)).alloc (.cells #[.string bn, .slice a3 n3 c3] 64)) ∧
    RBtcs Any (((w3.alloc (.cells #[.string bn, .slice a3 n3 c3] 64)).alloc (.cells #[.string bn, .slice a2 n2 c2] 64)).alloc (.cells #[.string bn, .slice a3 n3 c3] 64)) (.slice (some ⟨w3.heap.size + 1, 0, none⟩) 1 1) [(⟨bn, l⟩ : Btc)] ∧
    RBtcs Any (((w3.alloc (.cells #[.string bn, .slice a3 n3 c3] 64)).alloc (.cells #[.string bn, .slice a2 n2 c2] 64)).alloc (.cells #[.string bn, .slice a3 n3 c3] 64)) (.slice (some ⟨w3.heap.size + 1 + 1, 0, none⟩) 1 1) [(⟨bn, l⟩ : Btc)] := by
  have hb : Below w3.heap.size w3 (((w3.alloc (.cells #[.string bn, .slice a3 n3 c3] 64)).alloc (.cells #[.string bn, .slice a2 n2 c2] 64)).alloc (.cells #[.string bn, .slice a3 n3 c3] 64)) := ((below_new _ _).alloc (by simp) _).alloc (by simp; omega) _
  refine ⟨hb, ?_, ?_⟩
  · have g : (((w3.alloc (.cells #[.string bn, .slice a3 n3 c3] 64)).alloc (.cells #[.string bn, .slice a2 n2 c2] 64)).alloc (.cells #[.string bn, .slice a3 n3 c3] 64)).heap[w3.heap.size + 1]? = some (.cells #[.string bn, .slice a2 n2 c2] 64 (0, 0)) := by
      have := box_new (w3.alloc (.cells #[.string bn, .slice a3 n3 c3] 64)) (.cells #[.string bn, .slice a2 n2 c2] 64)
      rw [World.size_alloc] at this
      exact box_old _ this
    exact rbtc_one g hn (h2.same (.of_below hb))
  · have g : (((w3.alloc (.cells #[.string bn, .slice a3 n3 c3] 64)).alloc (.cells #[.string bn, .slice a2 n2 c2] 64)).alloc (.cells #[.string bn, .slice a3 n3 c3] 64)).heap[w3.heap.size + 1 + 1]? = some (.cells #[.string bn, .slice a3 n3 c3] 64 (0, 0)) := by
      have := box_new ((w3.alloc (.cells #[.string bn, .slice a3 n3 c3] 64)).alloc (.cells #[.string bn, .slice a2 n2 c2] 64)) (.cells #[.string bn, .slice a3 n3 c3] 64)
      rwa [World.size_alloc, World.size_alloc] at this
    exact rbtc_one g hn (h3.same (.of_below hb))
set_option maxHeartbeats 2000000 in
set_option maxRecDepth 100000 in
theorem law_reads (v : Value) (xs : List Int) (w : World) (h : RBytes Any w v xs) :
    Calls Try.prog 6 #[v] w fun e w' => e = .returned (.bool true) ∧ Below w.heap.size w w' := by
  by_cases hlong : 20000 < xs.length
  · obtain ⟨a, cap, rfl, h1, h2⟩ := RSl.shape h
    clear h
    go_enter Try.func6, Try.ntmps6
    go_wp2
    go_ret
    exact ⟨rfl, Below.refl _ _⟩
  obtain ⟨I, hI⟩ : ∃ I, readI xs = I := ⟨_, rfl⟩
  have hnl := readName_le xs
  obtain ⟨⟨bn, bl⟩, cd, kd, hV⟩ : ∃ bt cd kd, readV xs = (bt, cd, kd) := ⟨_, _, _, rfl⟩
  rw [hV] at hnl
  have hA := fun W p (hp : RBytes Any W p xs) => (recordRead Any p xs W hp (by omega)).mono fun _ _ => ReadOpen.of hI hV
  have hB := fun W p (hp : RBytes Any W p xs) => (refRead Any p xs W hp (by omega)).mono fun _ _ => ReadOpen.of hI hV
  have hSt := fun W (hW : Below w.heap.size w W) => RBytes.str (h.same (.of_below hW))
  have hH := fun W (hW : Below w.heap.size w W) => RBytes.same (.of_below hW) h
  obtain ⟨a, cap, rfl, h1, h2⟩ := RSl.shape h
  have HA := Lib.hid hA; have HB := Lib.hid hB; have HSt := Lib.hid hSt; have HH := Lib.hid hH
  have hnl2 : bn.size ≤ 140737488355328 := by simp at hnl; omega
  clear hA hB hI hV hnl hSt hH h
  go_enter Try.func6, Try.ntmps6
  go_wp2_with (first
    | (at_builtin; go_must (refine wpList_app _ Try.infoU8 rfl rfl Try.underlying61 ⟨rfl, by omega, by omega⟩ (dInt.one _) (dInt.stable (fun _ => False) _) w.heap.size (Own.fresh _ _ _ _ 0 (box_new w (.cells #[] 5)) (Nat.le_refl _) (by simp [maxLen]) rfl) rfl (HH.out _ (below_new _ _)) rfl (by simp; omega) (by simp) ?_); intro a1 c1 w1 hg hat ho1; have ho2 := ho1 (fun _ _ h => h.elim); have hb1 : Below w.heap.size w w1 := (below_new w _).grown hg (by simp) (fun b hb => (by cases hb; exact Nat.le_refl _)); have hl1 := hb1.size; have hr1 : RBytes Any w1 (.slice a1 xs.length c1) xs := (by have := RSl.mono (T := Any) (fun _ _ _ h => h) (fun _ _ => trivial) (Own.rsl ho2 (by simp; omega)); show RSl Any 1 (dInt .u8) w1 (.slice a1 xs.length c1) xs; simpa using this); have hs1 := fun W (hW : Below w1.heap.size w1 W) => RBytes.str (RBytes.same (.of_below hW) hr1); have Hr1 := Lib.hid hr1; have Hs1 := Lib.hid hs1; clear ho1 ho2 hg hat hr1 hs1)
    | (go_at_call 45; refine (HA.out _ _ Hr1.out).mono ?_; rintro e w2 ⟨a2, c2, rfl, hr2, hb2⟩; have hl2 := hb2.size; have Hr2 := Lib.hid hr2; clear hr2)
    | (go_at_call 46; refine (HB.out _ _ (HH.out _ ((hb1.trans (hb2.mono hl1)).alloc (by omega) _))).mono ?_; rintro e w3 ⟨a3, c3, rfl, hr3, hb3⟩; have hl3 := hb3.size; obtain ⟨g1, q1, q2⟩ := own_box hb3 (by simp) (box_new w2 _); have hlt3 := size_of_box g1; have hk := w4_facts hnl2 (RBlts.same (.of_below ((below_new w2 (.cells #[.string bn, .slice a2 bl.length c2] 64)).trans (hb3.mono (by simp)))) Hr2.out) hr3; have Hk := Lib.hid hk; have hq3 := ((hb1.trans (hb2.mono hl1)).alloc (by omega) (.cells #[.string bn, .slice a2 bl.length c2] 64)).trans (hb3.mono (by simp; omega)); have hq13 := (hb2.alloc (by omega) (.cells #[.string bn, .slice a2 bl.length c2] 64)).trans (hb3.mono (by simp; omega)); clear hr3 hk)
    | (go_at_call 24; refine (sameT Any Any _ _ _ _ Hk.out.2.1 Hk.out.2.2).mono ?_; rintro e w5 ⟨rfl, hb5⟩; have hk5 : Below w3.heap.size w3 w5 := Hk.out.1.trans (hb5.mono Hk.out.1.size); have hq5 := hq3.trans (hk5.mono hq3.size); have hz1 := Hs1.out w5 (hq13.trans (hk5.mono hq13.size)); have hz2 := HSt.out w5 hq5))
  go_ret
  exact ⟨rfl, hq5⟩
end Go.Proofs.Ytkjgddcjhikdgaa
