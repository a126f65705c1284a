/- Texts of one claim, put together: Copy, Copy2, TwinR, TwinP, PutS, PutG, PutP, Ref08, Ref26, Ref26b, PutR, Sizes, Oct. -/
import Derived.Test.YtkjgddcjhikdgaaKGFoot
import Derived.Test.YtkjgddcjhikdgaaProg
import Derived.Test.YtkjgddcjhikdgaaKGBal
import Derived.WalkSpells
import Derived.WalkLawsBesides
import Derived.Deep.RegionLaw
import Derived.Laws.BitsAllLaws

/- The contracts of the copies: slices.Clone of integers, of ballots, of batches; copies of one ballot. -/
namespace Go.Proofs.Ytkjgddcjhikdgaa
open Go Go.RowKit

theorem Try.infoInt : (Try.prog.info? 3).map (fun i => (i.zero, i.size, i.bytes)) = some (some (.int .i64 0), 1, 8) := by kernel_rfl
theorem Try.infoBlt : (Try.prog.info? 25).map (fun i => (i.zero, i.size, i.bytes)) = some (some (.agg #[.int .u8 0, .slice none 0 0]), 2, 32) := by kernel_rfl
theorem Try.infoBtc : (Try.prog.info? 64).map (fun i => (i.zero, i.size, i.bytes)) = some (some (.agg #[.string ⟨#[]⟩, .slice none 0 0]), 2, 40) := by kernel_rfl

/-- The call returns a row of its own. -/
def GivesOwn {α : Type} (ty : TypeId) (n : Nat) (dec : World → List Value → α → Prop) (xs : List α) (w : World) (e : Ending) (w' : World) : Prop :=
  ∃ v, e = .returned v ∧ Own w.heap.size ty n dec w' v xs ∧ Below w.heap.size w w'
def GivesBlt (x : Blt) (w : World) (e : Ending) (w' : World) : Prop :=
  ∃ v, e = .returned v ∧ WBlt (From w.heap.size) w' v x ∧ Below w.heap.size w w'

theorem nil_of_none {α : Type} {S : Nat → Prop} {n : Nat} {dec : World → List Value → α → Prop} {w : World} {m cap : Nat} {xs : List α} (h : RSl S n dec w (.slice none m cap) xs) : xs = [] := by
  obtain ⟨a, cap, cells, hv, _, _, _, h⟩ := h
  simp only [Value.slice.injEq] at hv
  obtain ⟨rfl, _⟩ := hv
  rcases h with h | ⟨b, off, h, _⟩
  · exact h
  · cases h

set_option maxHeartbeats 400000 in
theorem cloneInts (S : Nat → Prop) (v : Value) (xs : List Int) (w : World) (h : RInts S w v xs) (hl : xs.length ≤ 1000000000) :
    Calls Try.prog 125 #[v] w (GivesOwn 3 1 (dInt .i64) xs w) := by
  obtain ⟨a, cap, rfl, h1, h2⟩ := RSl.shape h
  have hnil := fun (w : World) (a : Option Addr) (n c : Nat) => Lib.run_eql_slice_nil (P := Try.prog) w 23 3 a n c 0 0 Try.underlying23
  cases a with
  | none =>
    obtain rfl := nil_of_none h
    go_enter Try.func125, Try.ntmps125
    go_wp2
    go_ret
    exact ⟨_, rfl, Own.nil _ _ _ _ _, Below.refl _ _⟩
  | some ad =>
    have hb0 : Below w.heap.size w (w.alloc (.cells #[] 3)) := (Below.refl _ _).alloc (Nat.le_refl _) _
    have hu := RSl.same (dInt.stable (Cut S w.heap.size) .i64) (.of_below hb0) h.cut
    go_enter Try.func125, Try.ntmps125
    go_wp2_with (at_builtin; refine wpList_app _ Try.infoInt rfl rfl Try.underlying23 ⟨rfl, by omega, by omega⟩ (dInt.one _) (dInt.stable (Cut S w.heap.size) .i64) w.heap.size (Own.made _ _ _ _ w #[] 0 (Nat.le_refl _) (by simp [maxLen]) rfl) rfl hu rfl (by simp; omega) (by simp) ?_; intro a' c' w' hg hat ho)
    go_ret
    have ho' := ho (.of_grown hg (fun b hb => by simp only [Value.ownBlock, ne_eq, Option.some.injEq]; have := hb.2; omega))
    exact ⟨_, rfl, ho', hb0.grown hg (by simp) (by simp [Value.ownBlock])⟩
set_option maxHeartbeats 400000 in
theorem cloneBlts (S : Nat → Prop) (v : Value) (xs : List Blt) (w : World) (h : RBlts S w v xs) (hl : xs.length ≤ 1000000000) :
    Calls Try.prog 81 #[v] w (GivesOwn 25 2 (dBlt (Cut S w.heap.size)) xs w) := by
  obtain ⟨a, cap, rfl, h1, h2⟩ := RSl.shape h
  have hnil := fun (w : World) (a : Option Addr) (n c : Nat) => Lib.run_eql_slice_nil (P := Try.prog) w 62 25 a n c 0 0 Try.underlying62
  cases a with
  | none =>
    obtain rfl := nil_of_none h
    go_enter Try.func81, Try.ntmps81
    go_wp2
    go_ret
    exact ⟨_, rfl, Own.nil _ _ _ _ _, Below.refl _ _⟩
  | some ad =>
    have hb0 : Below w.heap.size w (w.alloc (.cells #[] 25)) := (Below.refl _ _).alloc (Nat.le_refl _) _
    have hu := RSl.same (dBlt.stable (Cut S w.heap.size)) (.of_below hb0) h.cut
    go_enter Try.func81, Try.ntmps81
    go_wp2_with (at_builtin; refine wpList_app _ Try.infoBlt rfl rfl Try.underlying62 ⟨rfl, by omega, by omega⟩ (dBlt.one _) (dBlt.stable (Cut S w.heap.size)) w.heap.size (Own.made _ _ _ _ w #[] 0 (Nat.le_refl _) (by simp [maxLen]) rfl) rfl hu rfl (by simp; omega) (by simp) ?_; intro a' c' w' hg hat ho)
    go_ret
    have ho' := ho (.of_grown hg (fun b hb => by simp only [Value.ownBlock, ne_eq, Option.some.injEq]; have := hb.2; omega))
    exact ⟨_, rfl, ho', hb0.grown hg (by simp) (by simp [Value.ownBlock])⟩
set_option maxHeartbeats 400000 in
theorem cloneBtcs (S : Nat → Prop) (v : Value) (xs : List Btc) (w : World) (h : RBtcs S w v xs) (hl : xs.length ≤ 1000000000) :
    Calls Try.prog 80 #[v] w (GivesOwn 64 2 (dBtc (Cut S w.heap.size)) xs w) := by
  obtain ⟨a, cap, rfl, h1, h2⟩ := RSl.shape h
  have hnil := fun (w : World) (a : Option Addr) (n c : Nat) => Lib.run_eql_slice_nil (P := Try.prog) w 22 64 a n c 0 0 Try.underlying22
  cases a with
  | none =>
    obtain rfl := nil_of_none h
    go_enter Try.func80, Try.ntmps80
    go_wp2
    go_ret
    exact ⟨_, rfl, Own.nil _ _ _ _ _, Below.refl _ _⟩
  | some ad =>
    have hb0 : Below w.heap.size w (w.alloc (.cells #[] 64)) := (Below.refl _ _).alloc (Nat.le_refl _) _
    have hu := RSl.same (dBtc.stable (Cut S w.heap.size)) (.of_below hb0) h.cut
    go_enter Try.func80, Try.ntmps80
    go_wp2_with (at_builtin; refine wpList_app _ Try.infoBtc rfl rfl Try.underlying22 ⟨rfl, by omega, by omega⟩ (dBtc.one _) (dBtc.stable (Cut S w.heap.size)) w.heap.size (Own.made _ _ _ _ w #[] 0 (Nat.le_refl _) (by simp [maxLen]) rfl) rfl hu rfl (by simp; omega) (by simp) ?_; intro a' c' w' hg hat ho)
    go_ret
    have ho' := ho (.of_grown hg (fun b hb => by simp only [Value.ownBlock, ne_eq, Option.some.injEq]; have := hb.2; omega))
    exact ⟨_, rfl, ho', hb0.grown hg (by simp) (by simp [Value.ownBlock])⟩
end Go.Proofs.Ytkjgddcjhikdgaa

/- The contracts of the copies of one ballot. -/
namespace Go.Proofs.Ytkjgddcjhikdgaa
open Go Go.RowKit

theorem cloneInts2 (S : Nat → Prop) (v : Value) (xs : List Int) (w : World) (h : RInts S w v xs) (hl : xs.length ≤ 1000000000) :
    Calls Try.prog 125 #[v] w fun e w' => ∃ a c, e = .returned (.slice a xs.length c) ∧ WSl (From w.heap.size) 1 (dInt .i64) w' (.slice a xs.length c) xs ∧ Below w.heap.size w w' :=
  (cloneInts S v xs w h hl).mono fun e w' ⟨v', he, hv, hb⟩ => by
    obtain ⟨a, c, rfl⟩ := Own.shape hv
    obtain ⟨_, _, _, _, hl2⟩ := RSl.shape h
    exact ⟨a, c, he, Own.wsl hv hl2, hb⟩

set_option maxHeartbeats 400000 in
theorem copied (S : Nat → Prop) (v : Value) (x : Blt) (w : World) (h : VBlt S w v x) (hl : x.marks.length ≤ 1000000000) :
    Calls Try.prog 73 #[v] w (GivesBlt x w) := by
  obtain ⟨c, d, rfl, h⟩ := h
  obtain ⟨a, cap, rfl, rfl, hl', hk1, hk2, h⟩ := h.open
  have hb0 : Below w.heap.size w ((w.alloc (.cells #[.int .u8 x.kind, .slice a x.marks.length cap] 25)).alloc (.cells #[.int .u8 0, .slice none 0 0] 25)) :=
    ((Below.refl _ _).alloc (Nat.le_refl _) _).alloc (by simp) _
  have h' := h.same (.of_below hb0)
  have hgA : ((w.alloc (.cells #[.int .u8 x.kind, .slice a x.marks.length cap] 25)).alloc (.cells #[.int .u8 0, .slice none 0 0] 25)).heap[w.heap.size]? = some (.cells #[.int .u8 x.kind, .slice a x.marks.length cap] 25 (0, 0)) := box_old _ (box_new _ _)
  have hgB : ((w.alloc (.cells #[.int .u8 x.kind, .slice a x.marks.length cap] 25)).alloc (.cells #[.int .u8 0, .slice none 0 0] 25)).heap[w.heap.size + 1]? = some (.cells #[.int .u8 0, .slice none 0 0] 25 (0, 0)) := by simpa using box_new (w.alloc (.cells #[.int .u8 x.kind, .slice a x.marks.length cap] 25)) (.cells #[.int .u8 0, .slice none 0 0] 25)
  go_enter Try.func73, Try.ntmps73
  go_wp2_with (go_at_call 125; refine (cloneInts2 S _ x.marks _ h' hl).mono ?_; rintro e w1 ⟨a1, c1, rfl, hv1, hb1⟩; obtain ⟨g1, hc1, hf1⟩ := own_box hb1 (by simp; omega) hgA; obtain ⟨g2, hc2, hf2⟩ := own_box hb1 (by simp) hgB; have hz1 := hb1.size; simp at hz1)
  refine bodyPost_ret (v := .agg #[.int .u8 x.kind, .slice a1 x.marks.length c1]) (by simp [results, Try.results73, go_sem, hc2]) rfl ⟨_, rfl, ⟨_, _, rfl, _, rfl, hk1, hk2, ?_⟩, ?_⟩
  · refine WSl.mono (S := From (w.heap.size + 2)) (fun _ _ _ h => h) (fun b hb => by simp [From] at hb ⊢; omega) (WSl.same (dInt.stable _ _) ?_ (WSl.mono (T := From (w.heap.size + 2)) (fun _ _ _ h => h) (fun b hb => by simp [From] at hb ⊢; omega) hv1))
    exact (((Same.refl _ _).setCell (by simp [From]) _).setCell (by simp [From]) _).setCell (by simp [From]) _
  · exact (((hb0.trans (hb1.mono (by simp; omega))).setCell (p := ⟨w.heap.size, 1, none⟩) (Nat.le_refl _) _).setCell (p := ⟨w.heap.size + 1, 0, none⟩) (by simp) _).setCell (p := ⟨w.heap.size + 1, 1, none⟩) (by simp) _
end Go.Proofs.Ytkjgddcjhikdgaa

/- The contract of the reference's Twin. -/
namespace Go.Proofs.Ytkjgddcjhikdgaa
open Go Go.RowKit

/-- Batches of everyday size. -/
def Small (l : List Btc) : Prop := l.length ≤ 1000000 ∧ ∀ b ∈ l, b.blts.length ≤ 1000000 ∧ ∀ x ∈ b.blts, x.marks.length ≤ 1000000
end Go.Proofs.Ytkjgddcjhikdgaa

/- The contract of record.Twin. -/
namespace Go.Proofs.Ytkjgddcjhikdgaa
open Go Go.RowKit

theorem copied2 (S : Nat → Prop) (v : Value) (x : Blt) (w : World) (h : VBlt S w v x) (hl : x.marks.length ≤ 1000000000) :
    Calls Try.prog 73 #[v] w fun e w' => ∃ d, e = .returned (.agg #[.int .u8 x.kind, d]) ∧ wBlt (Span w.heap.size w'.heap.size) w' [.int .u8 x.kind, d] x ∧ Below w.heap.size w w' :=
  (copied S v x w h hl).mono fun e w' ⟨v', he, ⟨c, d, hv, hd⟩, hb⟩ => by
    have hd' := hd
    obtain ⟨a, cap, rfl, rfl, _⟩ := hd.toD.open
    exact ⟨_, by rw [he, hv], (hd'.cut).mono (fun b hb => ⟨hb.1, hb.2⟩), hb⟩

set_option maxHeartbeats 2000000 in
set_option maxRecDepth 100000 in
theorem twin (S : Nat → Prop) (v : Value) (l : List Btc) (w : World) (h : RBtcs S w v l) (hsm : Small l) :
    Calls Try.prog 38 #[v] w (fun e w' => ∃ v ys, e = .returned v ∧ Twinned w.heap.size w' v ys ∧ ys.map (·.x) = l ∧ Below w.heap.size w w') := by
  obtain ⟨hs1, hs2⟩ := hsm
  have HS2 := Lib.hid hs2; clear hs2
  obtain ⟨a, cap, hv, h1, h2⟩ := RSl.shape h
  have HC := Lib.hid (cloneBtcs S v l w h (by omega))
  have hSlt : ∀ b, Cut S w.heap.size b → b < w.heap.size := fun b hb => hb.2
  have HSlt := Lib.hid hSlt; clear hSlt
  subst hv
  go_enter Try.func38, Try.ntmps38
  go_wp2_with (go_at_call 80; refine HC.out.mono ?_; rintro e w1 ⟨v1, rfl, ho1, hb1⟩; obtain ⟨a1, c1, rfl⟩ := ho1.shape)
  have hsz1 := hb1.size
  go_loopw [10] (fun i wr => ∃ (k : Nat) (zs : List (Sp × Bool)), k ≤ l.length ∧ i = .int .i64 k ∧ MixOut (Cut S w.heap.size) w.heap.size wr (.slice a1 l.length c1) l k zs ∧ Below w.heap.size w wr) (fun i _ => l.length - (intOf i).toNat)
  case atStart => exact ⟨0, _, Nat.zero_le _, rfl, MixOut.start ho1, hb1⟩
  case round =>
    obtain ⟨k, zs, hk, rfl, hmo, hb⟩ := hrel
    have hszr := hb.size
    by_cases hlt : k < l.length
    · have hzl : zs.length = l.length := by rw [← hmo.2.1]; simp
      have hkz : k < zs.length := by omega
      obtain ⟨g, c0, d0, rfl, hg1, hg2, hc, hd, hf, hx⟩ := Own.at2 hmo.1 hkz
      have hxk : zs[k].1.x = l[k] := by
        have := congrArg (fun q => q[k]?) hmo.2.1
        simpa [hkz, hlt] using this
      have htag : zs[k].2 = false := by rw [hmo.2.2.1 k hkz]; simp
      simp only [mixC, htag, Bool.false_eq_true, if_false, hxk] at hx
      obtain ⟨a', cap', rfl, rfl, hl1, hl2, hI⟩ := hx.open
      obtain ⟨hsb, hsm⟩ := HS2.out l[k] (List.getElem_mem hlt)
      have HSM := Lib.hid hsm; clear hsm
      have HCB := Lib.hid (cloneBlts (Cut S w.heap.size) _ l[k].blts wr hI (by omega))
      have hf1 := hf (k * 2 + 1)
      have HF := Lib.hid hf; clear hf
      have HMO := Lib.hid hmo; clear hmo
      go_wp2_with (go_at_call 81; refine HCB.out.mono ?_; rintro e w2 ⟨v2, rfl, ho2, hb2⟩; obtain ⟨a2, c2, rfl⟩ := ho2.shape; have hcw := (Same.of_below (S := Any) hb2).cell trivial hd; have hfw := (hb2.frozen (p := ⟨g, k * 2 + 1, none⟩) hg2).trans hf1)
      obtain ⟨wo, rfl⟩ : ∃ wo, wo = wr := ⟨_, rfl⟩
      have hgB : g < w2.heap.size := by have := hb2.size; omega
      have hoc : (w2.setCell ⟨g, k * 2 + 1, none⟩ (.slice a2 l[k].blts.length c2)).cell? ⟨g, k * 2 + 1, none⟩ = some (.slice a2 l[k].blts.length c2) := World.cell?_setCell_same _ _ _ hcw
      have hz3 : (w2.setCell ⟨g, k * 2 + 1, none⟩ (.slice a2 l[k].blts.length c2)).heap.size = w2.heap.size := size_setCell' _ _ _
      have hv2lt : ∀ b, (Value.slice a2 l[k].blts.length c2).ownBlock = some b → wo.heap.size ≤ b ∧ b < w2.heap.size := ho2.lt
      have Hv2lt := Lib.hid hv2lt; clear hv2lt
      have hsz2 := hb2.size
      go_loopw [29] (fun i wr => ∃ (j : Nat) (zs2 : List (Blt × Bool)), j ≤ l[k].blts.length ∧ i = .int .i64 j ∧ MixIn (Cut S w.heap.size) wo.heap.size wr (.slice a2 l[k].blts.length c2) l[k].blts j zs2 ∧
        (w2.setCell ⟨g, k * 2 + 1, none⟩ (.slice a2 l[k].blts.length c2)).grownBy wr (Value.slice a2 l[k].blts.length c2).ownBlock) (fun i _ => l[k].blts.length - (intOf i).toNat)
      case atStart => exact ⟨0, _, Nat.zero_le _, rfl, MixIn.start (Own.dmono (fun _ _ h => h.mono fun _ => Cut.sub) (Own.setCell (dBlt.stable (Cut (Cut S w.heap.size) wo.heap.size)) ho2 (p := ⟨g, k * 2 + 1, none⟩) hg2 (fun hh => by have := hh.1.2; simp at this; omega) _)), gb_refl _ _⟩
      case round =>
        obtain ⟨j, zs2, hj, rfl, hmi, hgr⟩ := hrel
        have hocr : wr.cell? ⟨g, k * 2 + 1, none⟩ = some (.slice a2 l[k].blts.length c2) := hgr.cell hoc (fun he => by have := (Hv2lt.out g he.symm).1; omega)
        have hzr := hgr.size
        rw [hz3] at hzr
        have HC0 := Lib.hid hc
        clear hc hd hcw hfw
        by_cases hjl : j < l[k].blts.length
        · have hzl2 : zs2.length = l[k].blts.length := by rw [← hmi.2.1]; simp
          have hjz : j < zs2.length := by omega
          obtain ⟨g2, c3, d3, rfl, hg21, hg22, hc2, hd2, hf2, hx2⟩ := Own.at2 hmi.1 hjz
          have hxj : zs2[j].1 = l[k].blts[j] := by
            have := congrArg (fun q => q[j]?) hmi.2.1
            simpa [hjz, hjl] using this
          have htag2 : zs2[j].2 = false := by rw [hmi.2.2 j hjz]; simp
          simp only [mixB, htag2, Bool.false_eq_true, if_false, hxj] at hx2
          have hml := HSM.out l[k].blts[j] (List.getElem_mem hjl)
          have hx2' := hx2
          obtain ⟨a3, cap3, rfl, rfl, hl3, -, -, -⟩ := hx2'.open
          have hVB : ∀ W', Below wr.heap.size wr W' → VBlt (Cut S w.heap.size) W' (.agg #[.int .u8 l[k].blts[j].kind, .slice a3 l[k].blts[j].marks.length cap3]) l[k].blts[j] := fun W' hW => ⟨_, _, rfl, dBlt.stable _ _ _ _ _ (.of_below hW) hx2⟩
          have HVB := Lib.hid hVB; clear hVB hx2'
          have Hf2 := Lib.hid hf2; clear hf2
          have Hmi := Lib.hid hmi; clear hmi
          have Hgr := Lib.hid hgr; clear hgr
          go_wp2
          go_region_law (go_simp; go_at_call 73; refine (copied2 _ _ l[k].blts[j] _ (HVB.out _ (Below.drew (Below.refl _ _))) (by omega)).mono ?_; rintro e w4 ⟨d4, rfl, hv4, hb4⟩; obtain ⟨a4, c4, -, rfl, -⟩ := hv4.toD.open; have k1 := (Same.of_below (S := Any) hb4).cell trivial hocr; have k2 := (Same.of_below (S := Any) hb4).cell trivial hc2; have k3 := (Same.of_below (S := Any) hb4).cell trivial hd2; have k4 := (hb4.frozen (p := ⟨g2, j * 2, none⟩) hg22).trans (Hf2.out _); have k5 := (hb4.frozen (p := ⟨g2, j * 2 + 1, none⟩) hg22).trans (Hf2.out _))
          all_goals
            go_wp2
            have hb5 : Below wr.heap.size wr w4 := (Below.drew (Below.refl _ _)).trans hb4
            exact ⟨⟨j + 1, _, by omega, by go_num, Hmi.out.step hjz (fun b hh => by have := HSlt.out b hh; omega) (by omega) hb5 (by rw [hxj]; exact hv4), gb_trans Hgr.out (gb_trans (gb_below hb5 _) (gb_trans (gb_setCell w4 g2 _ _) (gb_setCell _ g2 _ _)))⟩, by simp [intOf]; omega⟩
        · have hjk : j = l[k].blts.length := by omega
          subst hjk
          have Hmi := Lib.hid hmi; clear hmi
          have Hgr := Lib.hid hgr; clear hgr
          go_wp2
          exact ⟨⟨k + 1, _, by omega, by go_num, HMO.out.step hkz HSlt.out hszr hb2 Hgr.out (by rw [hxk]; exact HC0.out) (by rw [hxk]; exact hl2) (by rw [hxk]; exact hl1) (fun b hb => (Hv2lt.out b hb).1) (by rw [hxk]; exact Hmi.out.done), ((hb.trans (hb2.mono hszr)).setCell (p := ⟨g, k * 2 + 1, none⟩) hg1 _).grown Hgr.out (by rw [hz3]; omega) (fun b hb => by have := (Hv2lt.out b hb).1; omega)⟩, by simp [intOf]; omega⟩
    · have hk' : k = l.length := by omega
      subst hk'
      have HMO := Lib.hid hmo; clear hmo
      go_wp2
      go_ret
      exact ⟨_, _, rfl, HMO.out.done.1, HMO.out.done.2, hb⟩
end Go.Proofs.Ytkjgddcjhikdgaa

/- What Put answers. -/
namespace Go.Proofs.Ytkjgddcjhikdgaa
open Go Go.RowKit

def atI (l : List Btc) (nm : ByteArray) : Int := idxB (fun b => sameName b.name nm) l
def grow1 (b : Blt) (x : Btc) : Btc := ⟨x.name, x.blts ++ [b]⟩
def put1 (l : List Btc) (nm : ByteArray) (b : Blt) : List Btc := if atI l nm < 0 then l ++ [⟨nm, [b]⟩] else l.modify (atI l nm).toNat (grow1 b)
def fullB (l : List Btc) (nm : ByteArray) : Bool := if atI l nm < 0 then decide (l.length = 16) else ((l[(atI l nm).toNat]?).map fun x => decide (x.blts.length = 64)).getD false
def putI (l : List Btc) (c kind : Int) (nm : ByteArray) (b : Blt) : Int :=
  if recCheck l c kind = 0 then (if nameB nm && fitsB b c kind then (if fullB l nm then 9 else 0) else 2) else recCheck l c kind
def putL (l : List Btc) (c kind : Int) (nm : ByteArray) (b : Blt) : List Btc := if putI l c kind nm b = 0 then put1 l nm b else []
theorem idxB_lt {α : Type} (p : α → Bool) : ∀ l : List α, idxB p l < l.length
  | [] => by simp [idxB]
  | x :: l => by have := idxB_lt p l; simp only [idxB, List.length_cons]; repeat' split <;> omega
/-- What a call of Put gives. -/
def PutGives (l : List Btc) (c kind : Int) (nm : ByteArray) (b : Blt) (w : World) (e : Ending) (w' : World) : Prop :=
  ∃ v, e = .returned (.tuple #[v, .int .i64 (putI l c kind nm b)]) ∧ WBtcs (From w.heap.size) w' v (putL l c kind nm b) ∧ Below w.heap.size w w'
theorem putL_nil {l : List Btc} {c kind : Int} {nm : ByteArray} {b : Blt} (h : putI l c kind nm b ≠ 0) : putL l c kind nm b = [] := by rw [putL, if_neg h]
theorem PutGives.none {l : List Btc} {c kind : Int} {nm : ByteArray} {b : Blt} {w w' : World} {i : Int} (hi : putI l c kind nm b = i) (h0 : i ≠ 0) (hb : Below w.heap.size w w') :
    PutGives l c kind nm b w (.returned (.tuple #[.slice none 0 0, .int .i64 i])) w' := ⟨_, by rw [hi], by rw [putL_nil (by rw [hi]; exact h0)]; exact WSl.nil, hb⟩
theorem PutGives.some {l : List Btc} {c kind : Int} {nm : ByteArray} {b : Blt} {w w' : World} {v : Value} {L : List Btc} {base : Nat} (hi : putI l c kind nm b = 0) (hl : putL l c kind nm b = L) (hv : WBtcs (From base) w' v L) (hbase : w.heap.size ≤ base) (hb : Below w.heap.size w w') :
    PutGives l c kind nm b w (.returned (.tuple #[v, .int .i64 0])) w' :=
  ⟨v, by rw [hi], by rw [hl]; exact WSl.mono (fun _ _ _ hh => hh.mono (T := From w.heap.size) fun c hc => by simp only [From] at hc ⊢; omega) (fun c hc => by simp only [From] at hc ⊢; omega) hv, hb⟩
theorem modify_last {α : Type} (f : α → α) (x : α) : ∀ l : List α, (l ++ [x]).modify l.length f = l ++ [f x]
  | [] => rfl
  | y :: l => by simp [modify_last f x l]
theorem small_of {l : List Btc} (hg : great l = false) : Small l := by
  simp only [great, Bool.or_eq_false_iff, decide_eq_false_iff_not] at hg
  refine ⟨by omega, fun b hb => ?_⟩
  have := List.any_eq_false.1 hg.2 b hb
  simp only [greatBtc, Bool.or_eq_true, decide_eq_true_eq, not_or] at this
  refine ⟨by omega, fun x hx => ?_⟩
  have h2 := this.2
  simp only [Bool.not_eq_true] at h2
  have := List.any_eq_false.1 h2 x hx
  simp [greatBlt] at this
  omega
end Go.Proofs.Ytkjgddcjhikdgaa

/- One more ballot in a batch of twinned batches. -/
namespace Go.Proofs.Ytkjgddcjhikdgaa
open Go Go.RowKit

section
variable {P : Program} (w : World)
theorem step_appV {α : Type} {z : Value} {size bytes : Nat} {ops : Array Oper} {o : Oper} {a : Act} {K : Act → World → Prop} {Q : Exit → Act → World → Prop} {E : Prop} {e t : TypeId} (hinfo : (P.info? e).map (fun i => (i.zero, i.size, i.bytes)) = some (some z, size, bytes))
    (hgd : o.guard = none) {s x : Operand} (ho : o.op = .call { callee := .builtin .append, args := #[s, x], argTypes := #[t, t] }) (ht : P.underlying t = some (.slice e))
    (hzs : z.cells.size = size ∧ 0 < size ∧ 0 < bytes) {S T : Nat → Prop} {dec : World → List Value → α → Prop} (h1 : OneC dec) (hst : Stable T dec) (base : Nat)
    {v : Value} {xs : List α} (hown : Own base e size dec w v xs) (hs : a.eval s = v) {u : Value} {ys : List α} (hu : RSl S size dec w u ys) (hx : a.eval x = u)
    (h63 : (xs.length + ys.length) * bytes ≤ 140737488355328) (hbase : base ≤ w.heap.size)
    (h : ∀ a' n' c' w', w.grownBy w' v.ownBlock → ((Value.slice a' n' c').ownBlock = v.ownBlock ∨ (Value.slice a' n' c').ownBlock = some w.heap.size) → (Same T w w' → Own base e size dec w' (.slice a' n' c') (xs ++ ys)) →
      K (a.put o.dst (.slice a' n' c')) w') :
    if Region.wanted o (yielded ops a.tmps) = true then Oper.wp P o a w K Q else E :=
  step_app w hinfo hgd ho ht hzs h1 hst base hown hs hu hx h63 hbase fun a' c' w' => h a' _ c' w'
theorem wpList_appV {α : Type} {z : Value} {size bytes : Nat} {ops : Array Oper} {rest : List Oper} {o : Oper} {a : Act} {Q : Exit → Act → World → Prop} {e t : TypeId} (hinfo : (P.info? e).map (fun i => (i.zero, i.size, i.bytes)) = some (some z, size, bytes))
    (hgd : o.guard = none) {s x : Operand} (ho : o.op = .call { callee := .builtin .append, args := #[s, x], argTypes := #[t, t] }) (ht : P.underlying t = some (.slice e))
    (hzs : z.cells.size = size ∧ 0 < size ∧ 0 < bytes) {S T : Nat → Prop} {dec : World → List Value → α → Prop} (h1 : OneC dec) (hst : Stable T dec) (base : Nat)
    {v : Value} {xs : List α} (hown : Own base e size dec w v xs) (hs : a.eval s = v) {u : Value} {ys : List α} (hu : RSl S size dec w u ys) (hx : a.eval x = u)
    (h63 : (xs.length + ys.length) * bytes ≤ 140737488355328) (hbase : base ≤ w.heap.size)
    (h : ∀ a' n' c' w', w.grownBy w' v.ownBlock → ((Value.slice a' n' c').ownBlock = v.ownBlock ∨ (Value.slice a' n' c').ownBlock = some w.heap.size) → (Same T w w' → Own base e size dec w' (.slice a' n' c') (xs ++ ys)) →
      wpList P ops Q rest (a.put o.dst (.slice a' n' c')) w') : wpList P ops Q (o :: rest) a w :=
  wpList_app w hinfo hgd ho ht hzs h1 hst base hown hs hu hx h63 hbase fun a' c' w' => h a' _ c' w'
end
/-- Where the ballots of the grown row lie: in the old row's span or in what has been built since, apart from the row. -/
def Gr (y : Sp) (d : Value) (m m' : Nat) : Nat → Prop := fun b => InRow y.lo y.hi d b ∨ (m ≤ b ∧ b < m')
theorem Twinned.at {base : Nat} {w : World} {a : Option Addr} {n cap : Nat} {ys : List Sp} (h : Twinned base w (.slice a n cap) ys) {k : Nat} (hk : k < ys.length) :
    ∃ g d, a = some ⟨g, 0, none⟩ ∧ base ≤ g ∧ g < w.heap.size ∧ w.cell? ⟨g, k * 2, none⟩ = some (.string ys[k].x.name) ∧ w.cell? ⟨g, k * 2 + 1, none⟩ = some d ∧ (∀ o, w.frozen? ⟨g, o, none⟩ = false) ∧
      ys[k].x.name.size ≤ 140737488355328 ∧ ys[k].x.blts.length ≤ 140737488355328 ∧ (∀ b, d.ownBlock = some b → ys[k].lo ≤ b ∧ b < ys[k].hi) ∧ (ys[k].lo ≤ ys[k].hi ∧ ys[k].hi ≤ w.heap.size) ∧ base ≤ ys[k].lo ∧ (∀ b, ys[k].lo ≤ b → b < ys[k].hi → b ≠ g) ∧
      (∃ a2 c2, d = .slice a2 ys[k].x.blts.length c2) ∧ Own ys[k].lo 25 2 (wBlt (InRow ys[k].lo ys[k].hi d)) w d ys[k].x.blts := by
  obtain ⟨g, c, d, rfl, h1, h2, h3, h4, h5, h6, v', h7, h8, h9, h10, h11⟩ := Own.at2 h.1 hk
  simp only [List.cons.injEq, and_true] at h7
  obtain ⟨rfl, rfl⟩ := h7
  have hm := h.2.2 _ (List.getElem_mem hk)
  exact ⟨g, d, rfl, h1, h2, h3, h4, h5, h8, h9, fun b hb => ⟨(Own.lt h11 b hb).1, h10 b hb⟩, hm.2, hm.1, fun b k1 k2 e => (h6 b k1 k2).2.2 (by rw [e]; rfl), Own.shape h11, h11⟩
/-- The result of Put: w the world in which the twin is as it was, w2 behind the copy of the ballot, w3 behind the append. -/
theorem Twinned.grow {base : Nat} {w w2 w3 : World} {g n cap : Nat} {ys : List Sp} (h : Twinned base w (.slice (some ⟨g, 0, none⟩) n cap) ys) {k : Nat} (hk : k < ys.length) (hl : ys.length ≤ 140737488355328) (hl2 : ys[k].x.blts.length < 140737488355328) {d d' : Value} {b : Blt} {o : Obj}
    (hd : w.cell? ⟨g, k * 2 + 1, none⟩ = some d) (hb : Below w.heap.size w w2) (hgr : (w2.alloc o).grownBy w3 d.ownBlock)
    (hob : d'.ownBlock = d.ownBlock ∨ d'.ownBlock = some (w2.alloc o).heap.size)
    (hown : Own ys[k].lo 25 2 (wBlt (Gr ys[k] d w.heap.size w2.heap.size)) w3 d' (ys[k].x.blts ++ [b])) :
    WBtcs (From base) (w3.setCell ⟨g, k * 2 + 1, none⟩ d') (.slice (some ⟨g, 0, none⟩) n cap) ((ys.map (·.x)).modify k (grow1 b)) := by
  obtain ⟨g', d0, e0, h1, h2, h3, h4, h5, h6, h7, h8, h9, h10, h11, -, -⟩ := h.at hk
  simp only [Option.some.injEq, Addr.mk.injEq, and_true] at e0
  subst e0
  rw [hd] at h4
  cases h4
  have hsz2 := hb.size
  have hsz3 : w2.heap.size + 1 ≤ w3.heap.size := by have := hgr.size; simpa using this
  have hblk : ∀ c, c < w.heap.size → some c ≠ d.ownBlock → w3.heap[c]? = w.heap[c]? := fun c hc hne =>
    (hgr.block c (by simp; omega) hne).trans ((Below.heap_alloc w2 o c (by omega)).trans (hb.block c hc))
  have hgd : some g ≠ d.ownBlock := fun e => by
    have := h8 g e.symm
    exact h11 g this.1 this.2 rfl
  have hgd' : some g ≠ d'.ownBlock := fun e => by
    rcases hob with k1 | k1
    · exact hgd (e.trans k1)
    · rw [k1] at e; simp at e; omega
  have hname : w3.cell? ⟨g, k * 2, none⟩ = some (.string ys[k].x.name) := (World.cell?_of_block (w := w) (a := ⟨g, k * 2, none⟩) (hblk g h2 hgd)).trans h3
  have hS : ∀ c, Gr ys[k] d w.heap.size w2.heap.size c → base ≤ c := fun c hc => by
    rcases hc with hc | hc
    · have := hc.1; omega
    · have := h1; omega
  have key : Own base 64 2 (fun w cs (y : Sp) => wBtc (From base) w cs y.x) (w3.setCell ⟨g, k * 2 + 1, none⟩ d') (.slice (some ⟨g, 0, none⟩) n cap) (ys.set k ⟨grow1 b ys[k].x, 0, 0⟩) := by
    refine Own.put2 (dec := dSep _) h.1 hk (c := .string ys[k].x.name) (u := d') (fun cur hcur _ => heap_setCell1 ((hblk g h2 hgd).trans hcur) hname d') ?_ (fun i hi hik cs hcs => ?_)
    · refine ⟨d', rfl, h6, ?_⟩
      have hw : Own ys[k].lo 25 2 (wBlt (Gr ys[k] d w.heap.size w2.heap.size)) (w3.setCell ⟨g, k * 2 + 1, none⟩ d') d' (ys[k].x.blts ++ [b]) := by
        have hst : Stable (fun c => c ≠ g) (wBlt (Gr ys[k] d w.heap.size w2.heap.size)) := fun a' b' c' x' he hx => wBlt.stable _ _ _ _ _ (he.mono fun c hc e => by
          subst e
          rcases hc with hc | hc
          · exact h11 c hc.1 hc.2.1 rfl
          · have := hc.1; omega) hx
        exact Own.same hst hown ((Same.refl _ _).setCell (p := ⟨g, k * 2 + 1, none⟩) (fun hh => hh rfl) _) (fun c hc e => hgd' (by rw [hc, e]))
      have hws := Own.wsl hw (by simp; omega)
      refine WSl.mono (fun _ _ _ hh => hh.mono hS) (fun c hc => ?_) hws
      have : ys[k].lo ≤ c := hc
      show base ≤ c
      omega
    · obtain ⟨hT, hrest⟩ := hcs
      have hmi := h.2.2 _ (List.getElem_mem hi)
      have hne : ∀ c, ys[i].lo ≤ c → c < ys[i].hi → c ≠ g := fun c k1 k2 e => (hT c k1 k2).2.2 (by rw [e]; rfl)
      have hdis : ∀ c, ys[i].lo ≤ c → c < ys[i].hi → some c ≠ d.ownBlock := fun c k1 k2 e => by
        have := h8 c e.symm
        rcases Nat.lt_or_gt_of_ne hik with hlt | hlt
        · have := (List.pairwise_iff_getElem.1 h.2.1) i k hi hk hlt; omega
        · have := (List.pairwise_iff_getElem.1 h.2.1) k i hk hi hlt; omega
      have hsep : dSep (Span ys[i].lo ys[i].hi) w cs ys[i] := ⟨fun c k1 k2 => ⟨k1, k2⟩, hrest⟩
      have h4 : dSep (Span ys[i].lo ys[i].hi) (w3.setCell ⟨g, k * 2 + 1, none⟩ d') cs ys[i] := by
        refine famSep.stable _ _ _ _ _ (fun c hc hcs => ?_) hsep
        exact (Below.heap_setCell w3 ⟨g, k * 2 + 1, none⟩ d' c (hne c hcs.1 hcs.2)).trans (hblk c hc (hdis c hcs.1 hcs.2))
      exact (h4.toW).mono fun c hc => by have := hc.1; show base ≤ c; omega
  have hmap : (ys.set k ⟨grow1 b ys[k].x, 0, 0⟩).map (·.x) = (ys.map (·.x)).modify k (grow1 b) := by
    rw [List.map_set]
    apply List.ext_getElem (by simp)
    intro i k1 k2
    rw [List.getElem_set, List.getElem_modify]
    by_cases e : k = i
    · subst e; simp
    · simp [e]
  rw [← hmap]
  exact WSl.map (fun y : Sp => y.x) (fun _ _ hh => hh) (Own.wsl key (by simpa using hl))
theorem keeps {w w6 w7 : World} {g : Nat} {row : Option Nat} (hg : g < w.heap.size) (hne : some g ≠ row) (hb : Below w.heap.size w w6) {o : Obj} (hgr : (w6.alloc o).grownBy w7 row) : w7.heap[g]? = w.heap[g]? :=
  (hgr.block g (by have := hb.size; simp; omega) hne).trans ((Below.heap_alloc w6 o g (by have := hb.size; omega)).trans (hb.block g hg))
theorem keeps_cell {w w6 w7 : World} {g i : Nat} {row : Option Nat} (hg : g < w.heap.size) (hne : some g ≠ row) (hb : Below w.heap.size w w6) {o : Obj} (hgr : (w6.alloc o).grownBy w7 row) {u : Value} (h : w.cell? ⟨g, i, none⟩ = some u) (hf : w.frozen? ⟨g, i, none⟩ = false) :
    w7.cell? ⟨g, i, none⟩ = some u ∧ w7.frozen? ⟨g, i, none⟩ = false :=
  ⟨(World.cell?_of_block (w := w) (a := ⟨g, i, none⟩) (keeps hg hne hb hgr)).trans h, (World.frozen?_of_block (w := w) (a := ⟨g, i, none⟩) (keeps hg hne hb hgr)).trans hf⟩
/-- The ballot that is appended, in the world behind its copy. -/
theorem Gr.new {y : Sp} {d : Value} {w w2 : World} {cs : List Value} {b : Blt} (h : wBlt (Span w.heap.size w2.heap.size) w2 cs b) (o : Obj) : wBlt (Gr y d w.heap.size w2.heap.size) (w2.alloc o) cs b :=
  (wBlt.stable _ _ _ _ _ (.of_below ((Below.refl _ _).alloc (Nat.le_refl _) _)) h).mono fun _ hc => .inr hc
theorem Gr.old {y : Sp} {d : Value} {w w2 : World} (h : Own y.lo 25 2 (wBlt (InRow y.lo y.hi d)) w d y.x.blts) (hb : Below w.heap.size w w2) (o : Obj) (m m' : Nat) :
    Own y.lo 25 2 (wBlt (Gr y d m m')) (w2.alloc o) d y.x.blts :=
  Own.dmono (fun _ _ hh => hh.mono fun _ hc => .inl hc) (Own.below (wBlt.stable _) h (hb.alloc hb.size o))
theorem Gr.same {y : Sp} {d : Value} {w w2 w3 : World} {o : Obj} (hgr : (w2.alloc o).grownBy w3 d.ownBlock) (_ : Below w.heap.size w w2) (hd : ∀ b, d.ownBlock = some b → b < w.heap.size) : Same (Gr y d w.heap.size w2.heap.size) (w2.alloc o) w3 :=
  .of_grown hgr fun c hc e => by
    rcases hc with hc | hc
    · exact hc.2.2 e
    · have := hd c e.symm; have := hc.1; omega
end Go.Proofs.Ytkjgddcjhikdgaa

/- The contract of record.Put: one theorem for each way it goes. Printed by wip/tools/putp.py. -/
namespace Go.Proofs.Ytkjgddcjhikdgaa
open Go Go.RowKit

set_option maxHeartbeats 1000000 in
theorem put_check (S : Nat → Prop) (v u : Value) (l : List Btc) (c kind : Int) (nm : ByteArray) (b : Blt) (w : World) (h : RBtcs S w v l) (hu : VBlt S w u b) (hc : recCheck l c kind ≠ 0) :
    Calls Try.prog 22 #[v, .int .i64 c, .int .u8 kind, .string nm, u] w (PutGives l c kind nm b w) := by
  obtain ⟨c0, d0, rfl, hB⟩ := hu
  obtain ⟨a0, cap0, rfl, rfl, -, -, -, -⟩ := hB.open
  have hpi : putI l c kind nm b = recCheck l c kind := by rw [putI, if_neg hc]
  have hb0 : Below w.heap.size w (w.alloc (.cells #[.int .u8 b.kind, .slice a0 b.marks.length cap0] 25)) := (Below.refl _ _).alloc (Nat.le_refl _) _
  have HC := Lib.hid (recordCheck S v l c kind _ (h.same (.of_below hb0)))
  have hne : (recCheck l c kind != 0) = true := by simp [hc]
  have Hpi := Lib.hid hpi
  have Hc := Lib.hid hc
  clear hc hpi h hB
  go_enter Try.func22, Try.ntmps22
  go_wp2_with (go_at_call 39; refine HC.out.mono ?_; rintro e w1 ⟨rfl, hb1⟩)
  go_ret2
  exact PutGives.none Hpi.out Hc.out (hb0.trans (hb1.mono (by simp)))
set_option maxHeartbeats 1000000 in
theorem put_noname (S : Nat → Prop) (v u : Value) (l : List Btc) (c kind : Int) (nm : ByteArray) (b : Blt) (w : World) (h : RBtcs S w v l) (hu : VBlt S w u b) (hnm : nm.size ≤ 140737488355328) (hc : recCheck l c kind = 0) (hn : nameB nm = false) :
    Calls Try.prog 22 #[v, .int .i64 c, .int .u8 kind, .string nm, u] w (PutGives l c kind nm b w) := by
  obtain ⟨c0, d0, rfl, hB⟩ := hu
  obtain ⟨a0, cap0, rfl, rfl, -, -, -, -⟩ := hB.open
  have hb0 : Below w.heap.size w (w.alloc (.cells #[.int .u8 b.kind, .slice a0 b.marks.length cap0] 25)) := (Below.refl _ _).alloc (Nat.le_refl _) _
  have hbx := box_new w (.cells #[.int .u8 b.kind, .slice a0 b.marks.length cap0] 25)
  have hC := recordCheck S v l c kind _ (h.same (.of_below hb0))
  rw [hc] at hC
  have HC := Lib.hid hC
  have hM : ∀ W, Calls Try.prog 70 #[.agg #[.string nm, .slice none 0 0, .int .i64 c, .int .u8 kind]] W fun e w' => e = .returned (.bool (nameB nm)) ∧ Below W.heap.size W w' := fun W => by
    have := may (fun _ => False) (.string nm) (.slice none 0 0) ⟨nm, []⟩ c kind W ⟨_, rfl, hnm, RSl.nil⟩
    simpa [mayB] using this
  have hF : ∀ W, Below w.heap.size w W → Calls Try.prog 71 #[.agg #[.string nm, .slice none 0 0, .int .i64 c, .int .u8 kind], .agg #[.int .u8 b.kind, .slice a0 b.marks.length cap0]] W fun e w' => e = .returned (.bool (fitsB b c kind)) ∧ Below W.heap.size W w' :=
    fun W hW => fits S _ _ _ b c kind W ⟨_, _, rfl, dBlt.stable S _ _ _ _ (.of_below hW) hB⟩
  have hP : ∀ W, Below w.heap.size w W → Calls Try.prog 72 #[v, .string nm] W fun e w' => e = .returned (.int .i64 (atI l nm)) ∧ Below W.heap.size W w' :=
    fun W hW => place S v l nm W (h.same (.of_below hW))
  have hpi : putI l c kind nm b = 2 := by rw [putI, if_pos hc, if_neg (by simp [hn])]
  rw [hn] at hM
  have Hpi := Lib.hid hpi
  have HM := Lib.hid hM
  clear hc hpi h hB hC hM hF hP hn
  go_enter Try.func22, Try.ntmps22
  go_wp2_with (first | (go_at_call 39; refine HC.out.mono ?_; rintro e w1 ⟨rfl, hb1⟩; have hq1 : Below w.heap.size w w1 := hb0.trans (hb1.mono (by simp)); have hs1 := hq1.size; have hbox1 := own_box hb1 (by simp) hbx; obtain ⟨gx1, hcx1, hfx1⟩ := hbox1) | (go_at_call 70; refine (HM.out _).mono ?_; rintro e w2 ⟨rfl, hb2⟩; have hq2 : Below w.heap.size w w2 := (hq1.alloc hs1 _).trans (hb2.mono (by simp; omega)); have hs2 := hq2.size; have hbox2 := own_box hb2 (by simp; have := size_of_box gx1; omega) (box_old _ gx1); obtain ⟨gx2, hcx2, hfx2⟩ := hbox2; have hbox2' := own_box hb2 (by simp) (box_new w1 _); obtain ⟨gr2, hcr2, hfr2⟩ := hbox2'))
  go_ret2
  exact PutGives.none Hpi.out (by decide) hq2
set_option maxHeartbeats 1000000 in
theorem put_unfit (S : Nat → Prop) (v u : Value) (l : List Btc) (c kind : Int) (nm : ByteArray) (b : Blt) (w : World) (h : RBtcs S w v l) (hu : VBlt S w u b) (hnm : nm.size ≤ 140737488355328) (hc : recCheck l c kind = 0) (hn : nameB nm = true) (hf : fitsB b c kind = false) :
    Calls Try.prog 22 #[v, .int .i64 c, .int .u8 kind, .string nm, u] w (PutGives l c kind nm b w) := by
  obtain ⟨c0, d0, rfl, hB⟩ := hu
  obtain ⟨a0, cap0, rfl, rfl, -, -, -, -⟩ := hB.open
  have hb0 : Below w.heap.size w (w.alloc (.cells #[.int .u8 b.kind, .slice a0 b.marks.length cap0] 25)) := (Below.refl _ _).alloc (Nat.le_refl _) _
  have hbx := box_new w (.cells #[.int .u8 b.kind, .slice a0 b.marks.length cap0] 25)
  have hC := recordCheck S v l c kind _ (h.same (.of_below hb0))
  rw [hc] at hC
  have HC := Lib.hid hC
  have hM : ∀ W, Calls Try.prog 70 #[.agg #[.string nm, .slice none 0 0, .int .i64 c, .int .u8 kind]] W fun e w' => e = .returned (.bool (nameB nm)) ∧ Below W.heap.size W w' := fun W => by
    have := may (fun _ => False) (.string nm) (.slice none 0 0) ⟨nm, []⟩ c kind W ⟨_, rfl, hnm, RSl.nil⟩
    simpa [mayB] using this
  have hF : ∀ W, Below w.heap.size w W → Calls Try.prog 71 #[.agg #[.string nm, .slice none 0 0, .int .i64 c, .int .u8 kind], .agg #[.int .u8 b.kind, .slice a0 b.marks.length cap0]] W fun e w' => e = .returned (.bool (fitsB b c kind)) ∧ Below W.heap.size W w' :=
    fun W hW => fits S _ _ _ b c kind W ⟨_, _, rfl, dBlt.stable S _ _ _ _ (.of_below hW) hB⟩
  have hP : ∀ W, Below w.heap.size w W → Calls Try.prog 72 #[v, .string nm] W fun e w' => e = .returned (.int .i64 (atI l nm)) ∧ Below W.heap.size W w' :=
    fun W hW => place S v l nm W (h.same (.of_below hW))
  have hpi : putI l c kind nm b = 2 := by rw [putI, if_pos hc, if_neg (by simp [hf])]
  rw [hn] at hM
  rw [hf] at hF
  have Hpi := Lib.hid hpi
  have HM := Lib.hid hM
  have HF := Lib.hid hF
  clear hc hpi h hB hC hM hF hP hn hf
  go_enter Try.func22, Try.ntmps22
  go_wp2_with (first | (go_at_call 39; refine HC.out.mono ?_; rintro e w1 ⟨rfl, hb1⟩; have hq1 : Below w.heap.size w w1 := hb0.trans (hb1.mono (by simp)); have hs1 := hq1.size; have hbox1 := own_box hb1 (by simp) hbx; obtain ⟨gx1, hcx1, hfx1⟩ := hbox1) | (go_at_call 70; refine (HM.out _).mono ?_; rintro e w2 ⟨rfl, hb2⟩; have hq2 : Below w.heap.size w w2 := (hq1.alloc hs1 _).trans (hb2.mono (by simp; omega)); have hs2 := hq2.size; have hbox2 := own_box hb2 (by simp; have := size_of_box gx1; omega) (box_old _ gx1); obtain ⟨gx2, hcx2, hfx2⟩ := hbox2; have hbox2' := own_box hb2 (by simp) (box_new w1 _); obtain ⟨gr2, hcr2, hfr2⟩ := hbox2') | (go_at_call 71; refine (HF.out _ hq2).mono ?_; rintro e w3 ⟨rfl, hb3⟩; have hq3 : Below w.heap.size w w3 := hq2.trans (hb3.mono hs2); have hs3 := hq3.size; have hbox3 := own_box hb3 (size_of_box gx2) gx2; obtain ⟨gx3, hcx3, hfx3⟩ := hbox3; have hbox3' := own_box hb3 (size_of_box gr2) gr2; obtain ⟨gr3, hcr3, hfr3⟩ := hbox3'))
  go_ret2
  exact PutGives.none Hpi.out (by decide) hq3
set_option maxHeartbeats 1000000 in
theorem put_full0 (S : Nat → Prop) (v u : Value) (l : List Btc) (c kind : Int) (nm : ByteArray) (b : Blt) (w : World) (h : RBtcs S w v l) (hu : VBlt S w u b) (hnm : nm.size ≤ 140737488355328) (hc : recCheck l c kind = 0) (hn : nameB nm = true) (hf : fitsB b c kind = true) (hi : atI l nm = -1) (hl : l.length = 16) :
    Calls Try.prog 22 #[v, .int .i64 c, .int .u8 kind, .string nm, u] w (PutGives l c kind nm b w) := by
  obtain ⟨c0, d0, rfl, hB⟩ := hu
  obtain ⟨a0, cap0, rfl, rfl, -, -, -, -⟩ := hB.open
  have hb0 : Below w.heap.size w (w.alloc (.cells #[.int .u8 b.kind, .slice a0 b.marks.length cap0] 25)) := (Below.refl _ _).alloc (Nat.le_refl _) _
  have hbx := box_new w (.cells #[.int .u8 b.kind, .slice a0 b.marks.length cap0] 25)
  have hC := recordCheck S v l c kind _ (h.same (.of_below hb0))
  rw [hc] at hC
  have HC := Lib.hid hC
  have hM : ∀ W, Calls Try.prog 70 #[.agg #[.string nm, .slice none 0 0, .int .i64 c, .int .u8 kind]] W fun e w' => e = .returned (.bool (nameB nm)) ∧ Below W.heap.size W w' := fun W => by
    have := may (fun _ => False) (.string nm) (.slice none 0 0) ⟨nm, []⟩ c kind W ⟨_, rfl, hnm, RSl.nil⟩
    simpa [mayB] using this
  have hF : ∀ W, Below w.heap.size w W → Calls Try.prog 71 #[.agg #[.string nm, .slice none 0 0, .int .i64 c, .int .u8 kind], .agg #[.int .u8 b.kind, .slice a0 b.marks.length cap0]] W fun e w' => e = .returned (.bool (fitsB b c kind)) ∧ Below W.heap.size W w' :=
    fun W hW => fits S _ _ _ b c kind W ⟨_, _, rfl, dBlt.stable S _ _ _ _ (.of_below hW) hB⟩
  have hP : ∀ W, Below w.heap.size w W → Calls Try.prog 72 #[v, .string nm] W fun e w' => e = .returned (.int .i64 (atI l nm)) ∧ Below W.heap.size W w' :=
    fun W hW => place S v l nm W (h.same (.of_below hW))
  have hpi : putI l c kind nm b = 9 := by rw [putI, if_pos hc, if_pos (by simp [hn, hf]), if_pos (by rw [fullB, hi]; simp [hl])]
  rw [hn] at hM
  rw [hf] at hF
  rw [hi] at hP
  have Hpi := Lib.hid hpi
  have HM := Lib.hid hM
  have HF := Lib.hid hF
  have HP := Lib.hid hP
  obtain ⟨a, cap, rfl, -, -⟩ := RSl.shape h
  have hl' : ((l.length : Int) == 16) = true := by simp; omega
  clear hc hpi h hB hC hM hF hP hn hf hi hl
  go_enter Try.func22, Try.ntmps22
  go_wp2_with (first | (go_at_call 39; refine HC.out.mono ?_; rintro e w1 ⟨rfl, hb1⟩; have hq1 : Below w.heap.size w w1 := hb0.trans (hb1.mono (by simp)); have hs1 := hq1.size; have hbox1 := own_box hb1 (by simp) hbx; obtain ⟨gx1, hcx1, hfx1⟩ := hbox1) | (go_at_call 70; refine (HM.out _).mono ?_; rintro e w2 ⟨rfl, hb2⟩; have hq2 : Below w.heap.size w w2 := (hq1.alloc hs1 _).trans (hb2.mono (by simp; omega)); have hs2 := hq2.size; have hbox2 := own_box hb2 (by simp; have := size_of_box gx1; omega) (box_old _ gx1); obtain ⟨gx2, hcx2, hfx2⟩ := hbox2; have hbox2' := own_box hb2 (by simp) (box_new w1 _); obtain ⟨gr2, hcr2, hfr2⟩ := hbox2') | (go_at_call 71; refine (HF.out _ hq2).mono ?_; rintro e w3 ⟨rfl, hb3⟩; have hq3 : Below w.heap.size w w3 := hq2.trans (hb3.mono hs2); have hs3 := hq3.size; have hbox3 := own_box hb3 (size_of_box gx2) gx2; obtain ⟨gx3, hcx3, hfx3⟩ := hbox3; have hbox3' := own_box hb3 (size_of_box gr2) gr2; obtain ⟨gr3, hcr3, hfr3⟩ := hbox3') | (go_at_call 72; refine (HP.out _ hq3).mono ?_; rintro e w4 ⟨rfl, hb4⟩; have hq4 : Below w.heap.size w w4 := hq3.trans (hb4.mono hs3); have hs4 := hq4.size; have hbox4 := own_box hb4 (size_of_box gx3) gx3; obtain ⟨gx4, hcx4, hfx4⟩ := hbox4; have hbox4' := own_box hb4 (size_of_box gr3) gr3; obtain ⟨gr4, hcr4, hfr4⟩ := hbox4'))
  go_ret2
  exact PutGives.none Hpi.out (by decide) hq4
set_option maxHeartbeats 1000000 in
theorem put_full1 (S : Nat → Prop) (v u : Value) (l : List Btc) (c kind : Int) (nm : ByteArray) (b : Blt) (w : World) (h : RBtcs S w v l) (hu : VBlt S w u b) (hnm : nm.size ≤ 140737488355328) (hc : recCheck l c kind = 0) (hn : nameB nm = true) (hf : fitsB b c kind = true) (k : Nat) (hk : k < l.length) (hi : atI l nm = k) (hl : l[k].blts.length = 64) :
    Calls Try.prog 22 #[v, .int .i64 c, .int .u8 kind, .string nm, u] w (PutGives l c kind nm b w) := by
  obtain ⟨c0, d0, rfl, hB⟩ := hu
  obtain ⟨a0, cap0, rfl, rfl, -, -, -, -⟩ := hB.open
  have hb0 : Below w.heap.size w (w.alloc (.cells #[.int .u8 b.kind, .slice a0 b.marks.length cap0] 25)) := (Below.refl _ _).alloc (Nat.le_refl _) _
  have hbx := box_new w (.cells #[.int .u8 b.kind, .slice a0 b.marks.length cap0] 25)
  have hC := recordCheck S v l c kind _ (h.same (.of_below hb0))
  rw [hc] at hC
  have HC := Lib.hid hC
  have hM : ∀ W, Calls Try.prog 70 #[.agg #[.string nm, .slice none 0 0, .int .i64 c, .int .u8 kind]] W fun e w' => e = .returned (.bool (nameB nm)) ∧ Below W.heap.size W w' := fun W => by
    have := may (fun _ => False) (.string nm) (.slice none 0 0) ⟨nm, []⟩ c kind W ⟨_, rfl, hnm, RSl.nil⟩
    simpa [mayB] using this
  have hF : ∀ W, Below w.heap.size w W → Calls Try.prog 71 #[.agg #[.string nm, .slice none 0 0, .int .i64 c, .int .u8 kind], .agg #[.int .u8 b.kind, .slice a0 b.marks.length cap0]] W fun e w' => e = .returned (.bool (fitsB b c kind)) ∧ Below W.heap.size W w' :=
    fun W hW => fits S _ _ _ b c kind W ⟨_, _, rfl, dBlt.stable S _ _ _ _ (.of_below hW) hB⟩
  have hP : ∀ W, Below w.heap.size w W → Calls Try.prog 72 #[v, .string nm] W fun e w' => e = .returned (.int .i64 (atI l nm)) ∧ Below W.heap.size W w' :=
    fun W hW => place S v l nm W (h.same (.of_below hW))
  have hpi : putI l c kind nm b = 9 := by rw [putI, if_pos hc, if_pos (by simp [hn, hf]), if_pos (by rw [fullB, hi, if_neg (by omega)]; simp [hk, hl])]
  rw [hn] at hM
  rw [hf] at hF
  rw [hi] at hP
  have Hpi := Lib.hid hpi
  have HM := Lib.hid hM
  have HF := Lib.hid hF
  have HP := Lib.hid hP
  obtain ⟨a, cap, rfl, -, -⟩ := RSl.shape h
  obtain ⟨b', off, c1, d1, rfl, hS, hbw, hcc, hd, hx⟩ := RSl.at2 h k hk
  obtain ⟨a', cap', rfl, rfl, hl1, hl2, hI⟩ := hx.open
  have hl' : ((l[k].blts.length : Int) == 64) = true := by simp; omega
  clear hc hpi h hB hC hM hF hP hn hf hi hl hcc hx hI
  go_enter Try.func22, Try.ntmps22
  go_wp2_with (first | (go_at_call 39; refine HC.out.mono ?_; rintro e w1 ⟨rfl, hb1⟩; have hq1 : Below w.heap.size w w1 := hb0.trans (hb1.mono (by simp)); have hs1 := hq1.size; have hbox1 := own_box hb1 (by simp) hbx; obtain ⟨gx1, hcx1, hfx1⟩ := hbox1) | (go_at_call 70; refine (HM.out _).mono ?_; rintro e w2 ⟨rfl, hb2⟩; have hq2 : Below w.heap.size w w2 := (hq1.alloc hs1 _).trans (hb2.mono (by simp; omega)); have hs2 := hq2.size; have hbox2 := own_box hb2 (by simp; have := size_of_box gx1; omega) (box_old _ gx1); obtain ⟨gx2, hcx2, hfx2⟩ := hbox2; have hbox2' := own_box hb2 (by simp) (box_new w1 _); obtain ⟨gr2, hcr2, hfr2⟩ := hbox2') | (go_at_call 71; refine (HF.out _ hq2).mono ?_; rintro e w3 ⟨rfl, hb3⟩; have hq3 : Below w.heap.size w w3 := hq2.trans (hb3.mono hs2); have hs3 := hq3.size; have hbox3 := own_box hb3 (size_of_box gx2) gx2; obtain ⟨gx3, hcx3, hfx3⟩ := hbox3; have hbox3' := own_box hb3 (size_of_box gr2) gr2; obtain ⟨gr3, hcr3, hfr3⟩ := hbox3') | (go_at_call 72; refine (HP.out _ hq3).mono ?_; rintro e w4 ⟨rfl, hb4⟩; have hq4 : Below w.heap.size w w4 := hq3.trans (hb4.mono hs3); have hs4 := hq4.size; have hbox4 := own_box hb4 (size_of_box gx3) gx3; obtain ⟨gx4, hcx4, hfx4⟩ := hbox4; have hbox4' := own_box hb4 (size_of_box gr3) gr3; obtain ⟨gr4, hcr4, hfr4⟩ := hbox4'; have hd4 := (Same.of_below (S := Any) hq4).cell trivial hd))
  go_ret2
  exact PutGives.none Hpi.out (by decide) hq4

set_option maxHeartbeats 2000000 in
set_option maxRecDepth 100000 in
theorem put_grow (S : Nat → Prop) (v u : Value) (l : List Btc) (c kind : Int) (nm : ByteArray) (b : Blt) (w : World) (h : RBtcs S w v l) (hu : VBlt S w u b) (hnm : nm.size ≤ 140737488355328) (hc : recCheck l c kind = 0) (hsm : Small l) (hmk : b.marks.length ≤ 1000000) (hn : nameB nm = true) (hf : fitsB b c kind = true) (k : Nat) (hk : k < l.length) (hi : atI l nm = k) (hl : l[k].blts.length ≠ 64) :
    Calls Try.prog 22 #[v, .int .i64 c, .int .u8 kind, .string nm, u] w (PutGives l c kind nm b w) := by
  obtain ⟨c0, d0, rfl, hB⟩ := hu
  obtain ⟨a0, cap0, rfl, rfl, -, -, -, -⟩ := hB.open
  have hb0 : Below w.heap.size w (w.alloc (.cells #[.int .u8 b.kind, .slice a0 b.marks.length cap0] 25)) := (Below.refl _ _).alloc (Nat.le_refl _) _
  have hbx := box_new w (.cells #[.int .u8 b.kind, .slice a0 b.marks.length cap0] 25)
  have hC := recordCheck S v l c kind _ (h.same (.of_below hb0))
  rw [hc] at hC
  have HC := Lib.hid hC
  have hM : ∀ W, Calls Try.prog 70 #[.agg #[.string nm, .slice none 0 0, .int .i64 c, .int .u8 kind]] W fun e w' => e = .returned (.bool (nameB nm)) ∧ Below W.heap.size W w' := fun W => by
    have := may (fun _ => False) (.string nm) (.slice none 0 0) ⟨nm, []⟩ c kind W ⟨_, rfl, hnm, RSl.nil⟩
    simpa [mayB] using this
  have hF : ∀ W, Below w.heap.size w W → Calls Try.prog 71 #[.agg #[.string nm, .slice none 0 0, .int .i64 c, .int .u8 kind], .agg #[.int .u8 b.kind, .slice a0 b.marks.length cap0]] W fun e w' => e = .returned (.bool (fitsB b c kind)) ∧ Below W.heap.size W w' :=
    fun W hW => fits S _ _ _ b c kind W ⟨_, _, rfl, dBlt.stable S _ _ _ _ (.of_below hW) hB⟩
  have hP : ∀ W, Below w.heap.size w W → Calls Try.prog 72 #[v, .string nm] W fun e w' => e = .returned (.int .i64 (atI l nm)) ∧ Below W.heap.size W w' :=
    fun W hW => place S v l nm W (h.same (.of_below hW))
  have hpi : putI l c kind nm b = 0 := by rw [putI, if_pos hc, if_pos (by simp [hn, hf]), if_neg (by rw [fullB, hi, if_neg (by omega)]; simp [hk, hl])]
  have hpL : putL l c kind nm b = l.modify k (grow1 b) := by rw [putL, if_pos hpi, put1, hi, if_neg (by omega)]; rfl
  have hT : ∀ W, Below w.heap.size w W → Calls Try.prog 38 #[v] W (fun e w' => ∃ v ys, e = .returned v ∧ Twinned W.heap.size w' v ys ∧ ys.map (·.x) = l ∧ Below W.heap.size W w') :=
    fun W hW => twin S v l W (h.same (.of_below hW)) hsm
  have hCp : ∀ W, Below w.heap.size w W → Calls Try.prog 73 #[.agg #[.int .u8 b.kind, .slice a0 b.marks.length cap0]] W fun e w' => ∃ d, e = .returned (.agg #[.int .u8 b.kind, d]) ∧ wBlt (Span W.heap.size w'.heap.size) w' [.int .u8 b.kind, d] b ∧ Below W.heap.size W w' :=
    fun W hW => copied2 S _ b W ⟨_, _, rfl, dBlt.stable S _ _ _ _ (.of_below hW) hB⟩ (by omega)
  rw [hn] at hM
  rw [hf] at hF
  rw [hi] at hP
  have Hpi := Lib.hid hpi
  have HpL := Lib.hid hpL
  have HM := Lib.hid hM
  have HF := Lib.hid hF
  have HP := Lib.hid hP
  have HT := Lib.hid hT
  have HCp := Lib.hid hCp
  obtain ⟨a, cap, rfl, -, -⟩ := RSl.shape h
  obtain ⟨b', off, c1, d1, rfl, hS, hbw, hcc, hd, hx⟩ := RSl.at2 h k hk
  obtain ⟨a', cap', rfl, rfl, hl1, hl2, hI⟩ := hx.open
  have hl' : ((l[k].blts.length : Int) == 64) = false := by simp; omega
  have hsl : l[k].blts.length ≤ 1000000 := (hsm.2 _ (List.getElem_mem hk)).1
  have hsl2 : l.length ≤ 1000000 := hsm.1
  clear hc hpi hpL h hB hC hM hF hP hT hCp hn hf hi hl hcc hx hI hsm
  go_enter Try.func22, Try.ntmps22
  go_wp2_with (first | (go_at_call 39; refine HC.out.mono ?_; rintro e w1 ⟨rfl, hb1⟩; have hq1 : Below w.heap.size w w1 := hb0.trans (hb1.mono (by simp)); have hs1 := hq1.size; have hbox1 := own_box hb1 (by simp) hbx; obtain ⟨gx1, hcx1, hfx1⟩ := hbox1) | (go_at_call 70; refine (HM.out _).mono ?_; rintro e w2 ⟨rfl, hb2⟩; have hq2 : Below w.heap.size w w2 := (hq1.alloc hs1 _).trans (hb2.mono (by simp; omega)); have hs2 := hq2.size; have hbox2 := own_box hb2 (by simp; have := size_of_box gx1; omega) (box_old _ gx1); obtain ⟨gx2, hcx2, hfx2⟩ := hbox2; have hbox2' := own_box hb2 (by simp) (box_new w1 _); obtain ⟨gr2, hcr2, hfr2⟩ := hbox2') | (go_at_call 71; refine (HF.out _ hq2).mono ?_; rintro e w3 ⟨rfl, hb3⟩; have hq3 : Below w.heap.size w w3 := hq2.trans (hb3.mono hs2); have hs3 := hq3.size; have hbox3 := own_box hb3 (size_of_box gx2) gx2; obtain ⟨gx3, hcx3, hfx3⟩ := hbox3; have hbox3' := own_box hb3 (size_of_box gr2) gr2; obtain ⟨gr3, hcr3, hfr3⟩ := hbox3') | (go_at_call 72; refine (HP.out _ hq3).mono ?_; rintro e w4 ⟨rfl, hb4⟩; have hq4 : Below w.heap.size w w4 := hq3.trans (hb4.mono hs3); have hs4 := hq4.size; have hbox4 := own_box hb4 (size_of_box gx3) gx3; obtain ⟨gx4, hcx4, hfx4⟩ := hbox4; have hbox4' := own_box hb4 (size_of_box gr3) gr3; obtain ⟨gr4, hcr4, hfr4⟩ := hbox4'; have hd4 := (Same.of_below (S := Any) hq4).cell trivial hd) | (go_at_call 38; refine (HT.out _ hq4).mono ?_; rintro e w5 ⟨v5, ys, rfl, htw, hys, hb5⟩; have hq5 : Below w.heap.size w w5 := hq4.trans (hb5.mono hs4); have hs5 := hq5.size; have hbox5 := own_box hb5 (size_of_box gx4) gx4; obtain ⟨gx5, hcx5, hfx5⟩ := hbox5; have hbox5' := own_box hb5 (size_of_box gr4) gr4; obtain ⟨gr5, hcr5, hfr5⟩ := hbox5'; obtain ⟨a5, c5, hv5⟩ := htw.1.shape; have hyl : ys.length = l.length := (by rw [← hys]; simp); rw [hyl] at hv5; subst hv5))
  obtain ⟨zs, hzs⟩ : ∃ zs, zs = ys := ⟨_, rfl⟩
  subst hzs
  have hkz : k < zs.length := by omega
  have hzk : zs[k].x = l[k] := by
    have := congrArg (fun q => q[k]?) hys
    simpa [hkz, hk] using this
  have Hlist : RowKit.Hid ((zs.map (·.x)).modify k (grow1 b) = l.modify k (grow1 b)) := by rw [hys]; exact rfl
  have hl2W : zs[k].x.blts.length ≤ 1000000 := by rw [hzk]; exact hsl
  have hqW := hq5
  have htwW := htw
  clear htw hys hzk
  have hsW := hqW.size
  have hkz' : ((k : Nat) : Int) < zs.length := by omega
  obtain ⟨g, d, rfl, hg1, hg2, hc5, hd5, hf5, hn5, hl5, hdo, hhi, hlo, hng, hsh, hown⟩ := htwW.at hkz
  obtain ⟨a2, c2, hd2⟩ := hsh
  obtain ⟨n2, hn2⟩ : ∃ n, n = zs[k].x.blts.length := ⟨_, rfl⟩
  rw [← hn2] at hd2
  clear hn2
  subst hd2
  have hgne : some g ≠ (Value.slice a2 n2 c2).ownBlock := fun e => by have := hdo g e.symm; exact hng g this.1 this.2 rfl
  have hA : ∀ (w8 : World) (d6 : Value), wBlt (Span w5.drew.heap.size w8.heap.size) w8 [.int .u8 b.kind, d6] b → Below w5.drew.heap.size w5.drew w8 →
      Own zs[k].lo 25 2 (wBlt (Gr zs[k] (.slice a2 n2 c2) w5.heap.size w8.heap.size)) (w8.alloc (.cells #[.int .u8 b.kind, d6] 25)) (.slice a2 n2 c2) zs[k].x.blts ∧
      RSl (From 0) 2 (wBlt (Gr zs[k] (.slice a2 n2 c2) w5.heap.size w8.heap.size)) (w8.alloc (.cells #[.int .u8 b.kind, d6] 25)) (.slice (some ⟨w8.heap.size, 0, none⟩) 1 1) [b] ∧
      (zs[k].x.blts.length + [b].length) * 32 ≤ 140737488355328 ∧ zs[k].lo ≤ (w8.alloc (.cells #[.int .u8 b.kind, d6] 25)).heap.size := by
    intro w8 d6 hv6 hb6
    refine ⟨Gr.old hown ((Below.drew (Below.refl _ _)).trans hb6) _ _ _, RSl.built (Nat.zero_le _) (box_new w8 (.cells #[.int .u8 b.kind, d6] 25)) rfl (Gr.new (w := w5) hv6 _), by simp; omega, ?_⟩
    have := hb6.size; simp at this ⊢; omega
  have HA := Lib.hid hA; clear hA hown
  have Hgne := Lib.hid hgne; clear hgne
  have Hng := Lib.hid hng; clear hng
  have Hdo := Lib.hid hdo; clear hdo
  have hfk := hf5 (k * 2 + 1)
  clear hf5
  have HtwW := Lib.hid htwW; clear htwW
  have h72 := Lib.hid hl2W
  clear hl2W
  go_region_law (first | (refine step_appV _ Try.infoBlt rfl rfl Try.underlying62 ⟨rfl, by omega, by omega⟩ (wBlt.one (Gr zs[k] (.slice a2 n2 c2) w5.heap.size w8.heap.size)) (wBlt.stable (Gr zs[k] (.slice a2 n2 c2) w5.heap.size w8.heap.size)) zs[k].lo (HA.out w8 d6 hv6 hb6).1 rfl (HA.out w8 d6 hv6 hb6).2.1 rfl (HA.out w8 d6 hv6 hb6).2.2.1 (HA.out w8 d6 hv6 hb6).2.2.2 ?_; intro a' n' c' w9 hgr hob hO; have hk7 := keeps_cell hg2 Hgne.out ((Below.drew (Below.refl _ _)).trans hb6) hgr hd5 hfk; obtain ⟨k71, k72⟩ := hk7) | (go_simp; go_at_call 73; refine (HCp.out _ (hqW.trans ((Below.drew (Below.refl _ _)).mono hsW))).mono ?_; rintro e w8 ⟨d6, rfl, hv6, hb6⟩; have hd56 := (Same.of_below (S := Any) hb6).cell trivial hd5; have hgw6 : g < w8.heap.size := (by have := hb6.size; simp at this; omega)))
  all_goals
    go_wp2
    go_ret2
    have hb7 : Below w5.heap.size w5 w8 := (Below.drew (Below.refl _ _)).trans hb6
    have hres := HtwW.out.grow (o := .cells #[.int .u8 b.kind, d6] 25) hkz (by omega) (by have := h72.out; omega) hd5 hb7 hgr hob (hO (Gr.same hgr hb7 (fun b hb => by have := Hdo.out b hb; omega)))
    refine PutGives.some Hpi.out (HpL.out.trans Hlist.out.symm) hres (by omega) ?_
    exact (((hqW.trans (hb7.mono hsW)).alloc (by have := hb7.size; omega) _).grown hgr (by simp; have := hb7.size; omega) (fun b hb => by have := Hdo.out b hb; omega)).setCell (p := ⟨g, k * 2 + 1, none⟩) (by show w.heap.size ≤ g; omega) _

set_option maxHeartbeats 2000000 in
set_option maxRecDepth 100000 in
theorem put_push (S : Nat → Prop) (v u : Value) (l : List Btc) (c kind : Int) (nm : ByteArray) (b : Blt) (w : World) (h : RBtcs S w v l) (hu : VBlt S w u b) (hnm : nm.size ≤ 140737488355328) (hc : recCheck l c kind = 0) (hsm : Small l) (hmk : b.marks.length ≤ 1000000) (hn : nameB nm = true) (hf : fitsB b c kind = true) (hi : atI l nm = -1) (hl : l.length ≠ 16) :
    Calls Try.prog 22 #[v, .int .i64 c, .int .u8 kind, .string nm, u] w (PutGives l c kind nm b w) := by
  obtain ⟨c0, d0, rfl, hB⟩ := hu
  obtain ⟨a0, cap0, rfl, rfl, -, -, -, -⟩ := hB.open
  have hb0 : Below w.heap.size w (w.alloc (.cells #[.int .u8 b.kind, .slice a0 b.marks.length cap0] 25)) := (Below.refl _ _).alloc (Nat.le_refl _) _
  have hbx := box_new w (.cells #[.int .u8 b.kind, .slice a0 b.marks.length cap0] 25)
  have hC := recordCheck S v l c kind _ (h.same (.of_below hb0))
  rw [hc] at hC
  have HC := Lib.hid hC
  have hM : ∀ W, Calls Try.prog 70 #[.agg #[.string nm, .slice none 0 0, .int .i64 c, .int .u8 kind]] W fun e w' => e = .returned (.bool (nameB nm)) ∧ Below W.heap.size W w' := fun W => by
    have := may (fun _ => False) (.string nm) (.slice none 0 0) ⟨nm, []⟩ c kind W ⟨_, rfl, hnm, RSl.nil⟩
    simpa [mayB] using this
  have hF : ∀ W, Below w.heap.size w W → Calls Try.prog 71 #[.agg #[.string nm, .slice none 0 0, .int .i64 c, .int .u8 kind], .agg #[.int .u8 b.kind, .slice a0 b.marks.length cap0]] W fun e w' => e = .returned (.bool (fitsB b c kind)) ∧ Below W.heap.size W w' :=
    fun W hW => fits S _ _ _ b c kind W ⟨_, _, rfl, dBlt.stable S _ _ _ _ (.of_below hW) hB⟩
  have hP : ∀ W, Below w.heap.size w W → Calls Try.prog 72 #[v, .string nm] W fun e w' => e = .returned (.int .i64 (atI l nm)) ∧ Below W.heap.size W w' :=
    fun W hW => place S v l nm W (h.same (.of_below hW))
  have hpi : putI l c kind nm b = 0 := by rw [putI, if_pos hc, if_pos (by simp [hn, hf]), if_neg (by rw [fullB, hi, if_pos (by omega)]; simp [hl])]
  have hpL : putL l c kind nm b = l ++ [⟨nm, [b]⟩] := by rw [putL, if_pos hpi, put1, hi, if_pos (by omega)]
  have hT : ∀ W, Below w.heap.size w W → Calls Try.prog 38 #[v] W (fun e w' => ∃ v ys, e = .returned v ∧ Twinned W.heap.size w' v ys ∧ ys.map (·.x) = l ∧ Below W.heap.size W w') :=
    fun W hW => twin S v l W (h.same (.of_below hW)) hsm
  have hCp : ∀ W, Below w.heap.size w W → Calls Try.prog 73 #[.agg #[.int .u8 b.kind, .slice a0 b.marks.length cap0]] W fun e w' => ∃ d, e = .returned (.agg #[.int .u8 b.kind, d]) ∧ wBlt (Span W.heap.size w'.heap.size) w' [.int .u8 b.kind, d] b ∧ Below W.heap.size W w' :=
    fun W hW => copied2 S _ b W ⟨_, _, rfl, dBlt.stable S _ _ _ _ (.of_below hW) hB⟩ (by omega)
  have hnew : ∀ (W W' : World) (v' : Value) (base : Nat), dSep (Rg base W' v') W' [.string nm, .slice none 0 0] ⟨⟨nm, []⟩, W.heap.size, W.heap.size⟩ := fun W W' v' base =>
    ⟨fun b h1 h2 => by simp at h1 h2; omega, _, rfl, hnm, by simp, by simp [Value.ownBlock], Own.nil _ _ _ _ _⟩
  rw [hn] at hM
  rw [hf] at hF
  rw [hi] at hP
  have Hpi := Lib.hid hpi
  have HpL := Lib.hid hpL
  have HM := Lib.hid hM
  have HF := Lib.hid hF
  have HP := Lib.hid hP
  have HT := Lib.hid hT
  have HCp := Lib.hid hCp
  have Hnew := Lib.hid hnew
  obtain ⟨a, cap, rfl, -, -⟩ := RSl.shape h
  have hl' : ((l.length : Int) == 16) = false := by simp; omega
  have hsl2 : l.length ≤ 1000000 := hsm.1
  clear hc hpi hpL h hB hC hM hF hP hT hCp hn hf hi hl hsm hnew
  go_enter Try.func22, Try.ntmps22
  go_wp2_with (first | (go_at_call 39; refine HC.out.mono ?_; rintro e w1 ⟨rfl, hb1⟩; have hq1 : Below w.heap.size w w1 := hb0.trans (hb1.mono (by simp)); have hs1 := hq1.size; have hbox1 := own_box hb1 (by simp) hbx; obtain ⟨gx1, hcx1, hfx1⟩ := hbox1) | (go_at_call 70; refine (HM.out _).mono ?_; rintro e w2 ⟨rfl, hb2⟩; have hq2 : Below w.heap.size w w2 := (hq1.alloc hs1 _).trans (hb2.mono (by simp; omega)); have hs2 := hq2.size; have hbox2 := own_box hb2 (by simp; have := size_of_box gx1; omega) (box_old _ gx1); obtain ⟨gx2, hcx2, hfx2⟩ := hbox2; have hbox2' := own_box hb2 (by simp) (box_new w1 _); obtain ⟨gr2, hcr2, hfr2⟩ := hbox2') | (go_at_call 71; refine (HF.out _ hq2).mono ?_; rintro e w3 ⟨rfl, hb3⟩; have hq3 : Below w.heap.size w w3 := hq2.trans (hb3.mono hs2); have hs3 := hq3.size; have hbox3 := own_box hb3 (size_of_box gx2) gx2; obtain ⟨gx3, hcx3, hfx3⟩ := hbox3; have hbox3' := own_box hb3 (size_of_box gr2) gr2; obtain ⟨gr3, hcr3, hfr3⟩ := hbox3') | (go_at_call 72; refine (HP.out _ hq3).mono ?_; rintro e w4 ⟨rfl, hb4⟩; have hq4 : Below w.heap.size w w4 := hq3.trans (hb4.mono hs3); have hs4 := hq4.size; have hbox4 := own_box hb4 (size_of_box gx3) gx3; obtain ⟨gx4, hcx4, hfx4⟩ := hbox4; have hbox4' := own_box hb4 (size_of_box gr3) gr3; obtain ⟨gr4, hcr4, hfr4⟩ := hbox4') | (go_at_call 38; refine (HT.out _ hq4).mono ?_; rintro e w5 ⟨v5, ys, rfl, htw, hys, hb5⟩; have hq5 : Below w.heap.size w w5 := hq4.trans (hb5.mono hs4); have hs5 := hq5.size; have hbox5 := own_box hb5 (size_of_box gx4) gx4; obtain ⟨gx5, hcx5, hfx5⟩ := hbox5; have hbox5' := own_box hb5 (size_of_box gr4) gr4; obtain ⟨gr5, hcr5, hfr5⟩ := hbox5'; obtain ⟨a5, c5, hv5⟩ := htw.1.shape; have hyl : ys.length = l.length := (by rw [← hys]; simp); rw [hyl] at hv5; subst hv5) | (at_builtin; go_must (refine wpList_appX _ Try.infoBtc rfl rfl Try.underlying22 ⟨rfl, by omega, by omega⟩ famSep w4.heap.size (htw.below ((Below.refl w5.heap.size w5).alloc (Nat.le_refl _) (.cells #[.string nm, .slice none 0 0] 64))).1 rfl (g := w5.heap.size) (cs := [.string nm, .slice none 0 0]) (y := ⟨⟨nm, []⟩, w5.heap.size, w5.heap.size⟩) (box_new _ _) rfl (Hnew.out _ _ _ _) rfl (by omega) (by have := hb5.size; simp; omega) ?_); go_must (intro a' n' c' w6 hgr6 hO6)))
  obtain ⟨zs, hzs⟩ : ∃ zs, zs = ys ++ [(⟨⟨nm, []⟩, w5.heap.size, w5.heap.size⟩ : Sp)] := ⟨_, rfl⟩
  rw [← hzs] at hO6
  have hzl : zs.length = l.length + 1 := by rw [hzs]; simp [hyl]
  have hkz : l.length < zs.length := by omega
  have hzk : zs[l.length].x = ⟨nm, []⟩ := by
    have h1 : zs[l.length]? = some ⟨⟨nm, []⟩, w5.heap.size, w5.heap.size⟩ := by rw [hzs, ← hyl]; simp
    rw [List.getElem?_eq_getElem hkz] at h1
    rw [Option.some.inj h1]
  have hb5s := hb5.size
  have hg6s : w5.heap.size + 1 ≤ w6.heap.size := by have := hgr6.size; simpa using this
  have htwW : Twinned w4.heap.size w6 (.slice a' n' c') zs := by
    rw [hzs]
    exact Twinned.push htw.2.1 (fun z hz => by have := htw.2.2 z hz; simp; omega) ⟨by simp; omega, by simp, by simp; omega⟩ (by rw [← hzs]; exact hO6)
  have hkn : l.length < n' := by
    obtain ⟨x1, x2, hsh6⟩ := hO6.shape
    simp only [Value.slice.injEq] at hsh6
    omega
  have Hlist : RowKit.Hid ((zs.map (·.x)).modify l.length (grow1 b) = l ++ [⟨nm, [b]⟩]) := by
    have hm : zs.map (·.x) = l ++ [⟨nm, []⟩] := by rw [hzs, List.map_append, hys]; rfl
    rw [hm, modify_last]
    exact rfl
  have hl2W : zs[l.length].x.blts.length ≤ 1000000 := by rw [hzk]; simp
  have hoL : ∀ g, (Value.slice a5 l.length c5).ownBlock = some g → w4.heap.size ≤ g ∧ g < w5.heap.size := htw.1.lt
  have hlt4 := size_of_box gx4
  have hlt5 := size_of_box gx5
  have hqW : Below w.heap.size w w6 := (hq5.alloc hs5 _).grown hgr6 (by simp; omega) (fun g hg => by have := hoL g hg; omega)
  have gx6 : w6.heap[w.heap.size]? = some (.cells #[.int .u8 b.kind, .slice a0 b.marks.length cap0] 25 (0, 0)) := (hgr6.block _ (by simp; omega) (fun e => by have := (hoL _ e.symm).1; omega)).trans (box_old _ gx5)
  obtain ⟨-, hcx6, hfx6⟩ := own_box (Below.refl w6.heap.size w6) (size_of_box gx6) gx6
  clear htw hys hzk hO6 hoL hgr6
  have hsW := hqW.size
  have hkz' : ((l.length : Nat) : Int) < zs.length := by omega
  obtain ⟨g, d, rfl, hg1, hg2, hc5, hd5, hf5, hn5, hl5, hdo, hhi, hlo, hng, hsh, hown⟩ := htwW.at hkz
  obtain ⟨a2, c2, hd2⟩ := hsh
  obtain ⟨n2, hn2⟩ : ∃ n, n = zs[l.length].x.blts.length := ⟨_, rfl⟩
  rw [← hn2] at hd2
  clear hn2
  subst hd2
  have hgne : some g ≠ (Value.slice a2 n2 c2).ownBlock := fun e => by have := hdo g e.symm; exact hng g this.1 this.2 rfl
  have hA : ∀ (w8 : World) (d6 : Value), wBlt (Span w6.drew.heap.size w8.heap.size) w8 [.int .u8 b.kind, d6] b → Below w6.drew.heap.size w6.drew w8 →
      Own zs[l.length].lo 25 2 (wBlt (Gr zs[l.length] (.slice a2 n2 c2) w6.heap.size w8.heap.size)) (w8.alloc (.cells #[.int .u8 b.kind, d6] 25)) (.slice a2 n2 c2) zs[l.length].x.blts ∧
      RSl (From 0) 2 (wBlt (Gr zs[l.length] (.slice a2 n2 c2) w6.heap.size w8.heap.size)) (w8.alloc (.cells #[.int .u8 b.kind, d6] 25)) (.slice (some ⟨w8.heap.size, 0, none⟩) 1 1) [b] ∧
      (zs[l.length].x.blts.length + [b].length) * 32 ≤ 140737488355328 ∧ zs[l.length].lo ≤ (w8.alloc (.cells #[.int .u8 b.kind, d6] 25)).heap.size := by
    intro w8 d6 hv6 hb6
    refine ⟨Gr.old hown ((Below.drew (Below.refl _ _)).trans hb6) _ _ _, RSl.built (Nat.zero_le _) (box_new w8 (.cells #[.int .u8 b.kind, d6] 25)) rfl (Gr.new (w := w6) hv6 _), by simp; omega, ?_⟩
    have := hb6.size; simp at this ⊢; omega
  have HA := Lib.hid hA; clear hA hown
  have Hgne := Lib.hid hgne; clear hgne
  have Hng := Lib.hid hng; clear hng
  have Hdo := Lib.hid hdo; clear hdo
  have hfk := hf5 (l.length * 2 + 1)
  clear hf5
  have HtwW := Lib.hid htwW; clear htwW
  have h72 := Lib.hid hl2W
  clear hl2W
  go_region_law (first | (refine step_appV _ Try.infoBlt rfl rfl Try.underlying62 ⟨rfl, by omega, by omega⟩ (wBlt.one (Gr zs[l.length] (.slice a2 n2 c2) w6.heap.size w8.heap.size)) (wBlt.stable (Gr zs[l.length] (.slice a2 n2 c2) w6.heap.size w8.heap.size)) zs[l.length].lo (HA.out w8 d6 hv6 hb6).1 rfl (HA.out w8 d6 hv6 hb6).2.1 rfl (HA.out w8 d6 hv6 hb6).2.2.1 (HA.out w8 d6 hv6 hb6).2.2.2 ?_; intro a' n' c' w9 hgr hob hO; have hk7 := keeps_cell hg2 Hgne.out ((Below.drew (Below.refl _ _)).trans hb6) hgr hd5 hfk; obtain ⟨k71, k72⟩ := hk7) | (go_simp; go_at_call 73; refine (HCp.out _ (hqW.trans ((Below.drew (Below.refl _ _)).mono hsW))).mono ?_; rintro e w8 ⟨d6, rfl, hv6, hb6⟩; have hd56 := (Same.of_below (S := Any) hb6).cell trivial hd5; have hgw6 : g < w8.heap.size := (by have := hb6.size; simp at this; omega)))
  all_goals
    go_wp2
    go_ret2
    have hb7 : Below w6.heap.size w6 w8 := (Below.drew (Below.refl _ _)).trans hb6
    have hres := HtwW.out.grow (o := .cells #[.int .u8 b.kind, d6] 25) hkz (by omega) (by have := h72.out; omega) hd5 hb7 hgr hob (hO (Gr.same hgr hb7 (fun b hb => by have := Hdo.out b hb; omega)))
    refine PutGives.some Hpi.out (HpL.out.trans Hlist.out.symm) hres (by omega) ?_
    exact (((hqW.trans (hb7.mono hsW)).alloc (by have := hb7.size; omega) _).grown hgr (by simp; have := hb7.size; omega) (fun b hb => by have := Hdo.out b hb; omega)).setCell (p := ⟨g, l.length * 2 + 1, none⟩) (by show w.heap.size ≤ g; omega) _
theorem put (S : Nat → Prop) (v u : Value) (l : List Btc) (c kind : Int) (nm : ByteArray) (b : Blt) (w : World) (h : RBtcs S w v l) (hu : VBlt S w u b) (hnm : nm.size ≤ 140737488355328) (hsm : Small l) (hmk : b.marks.length ≤ 1000000) :
    Calls Try.prog 22 #[v, .int .i64 c, .int .u8 kind, .string nm, u] w (PutGives l c kind nm b w) := by
  by_cases hc : recCheck l c kind = 0
  · cases hn : nameB nm
    · exact put_noname S v u l c kind nm b w h hu hnm hc hn
    · cases hf : fitsB b c kind
      · exact put_unfit S v u l c kind nm b w h hu hnm hc hn hf
      · by_cases hi : atI l nm < 0
        · have hi' : atI l nm = -1 := by have : -1 ≤ atI l nm := idxB_ge _ _; omega
          by_cases hl : l.length = 16
          · exact put_full0 S v u l c kind nm b w h hu hnm hc hn hf hi' hl
          · exact put_push S v u l c kind nm b w h hu hnm hc hsm hmk hn hf hi' hl
        · have hlt : atI l nm < l.length := idxB_lt _ _
          obtain ⟨k, hk⟩ := Int.eq_ofNat_of_zero_le (a := atI l nm) (by omega)
          have hkl : k < l.length := by omega
          by_cases hl : l[k].blts.length = 64
          · exact put_full1 S v u l c kind nm b w h hu hnm hc hn hf k hkl hk hl
          · exact put_grow S v u l c kind nm b w h hu hnm hc hsm hmk hn hf k hkl hk hl
  · exact put_check S v u l c kind nm b w h hu hc
end Go.Proofs.Ytkjgddcjhikdgaa

/- The contracts of the reference's ballots: place, Fine, Fits. -/
namespace Go.Proofs.Ytkjgddcjhikdgaa
open Go Go.RowKit Go.Shelf

/-- What a prefix has shown. -/
structure GoodTo (kind c : Int) (l : List Int) (k : Nat) : Prop where
  inr : ∀ j, (hj : j < l.length) → j < k → 0 ≤ l[j] ∧ l[j] < c
  one : ∀ k', (hk' : k' < l.length) → k' < k → ∀ j, (hj : j < k') → l[j] ≠ l[k']
  up : kind = 2 → ∀ i, (hi : i + 1 < l.length) → i + 1 < k → l[i] ≤ l[i + 1]
theorem GoodTo.zero (kind c : Int) (l : List Int) : GoodTo kind c l 0 := ⟨fun _ _ h => by omega, fun _ _ h => by omega, fun _ _ _ h => by omega⟩
theorem GoodTo.succ {kind c : Int} {l : List Int} {k : Nat} (h : GoodTo kind c l k) (hk : k < l.length) (h1 : 0 ≤ l[k] ∧ l[k] < c) (h2 : (l.take k).any (fun m => decide (m = l[k])) = false)
    (h3 : kind = 2 → ∀ i, (hi : i + 1 = k) → l[i] ≤ l[k]) : GoodTo kind c l (k + 1) := by
  refine ⟨fun j hj hjk => ?_, fun k' hk' hlt j hj => ?_, fun hkd i hi hlt => ?_⟩
  · by_cases e : j = k
    · subst e; exact h1
    · exact h.inr j hj (by omega)
  · by_cases e : k' = k
    · subst e
      intro he
      have := List.any_eq_false.1 h2 l[j] (List.mem_take_iff_getElem.2 ⟨j, by omega, rfl⟩)
      simp [he] at this
    · exact h.one k' hk' (by omega) j hj
  · by_cases e : i + 1 = k
    · subst e; exact h3 hkd i rfl
    · exact h.up hkd i hi (by omega)
end Go.Proofs.Ytkjgddcjhikdgaa

/- The contract of the reference's Put: one theorem for each way it goes. Printed by wip/tools/putr.py. -/
namespace Go.Proofs.Ytkjgddcjhikdgaa
open Go Go.RowKit

theorem Own.one {α : Type} {base : Nat} {e : TypeId} {n : Nat} {dec : World → List Value → α → Prop} {w : World} {g : Nat} {cs : List Value} {x : α} (hg : w.heap[g]? = some (.cells cs.toArray e (0, 0))) (hb : base ≤ g) (hl : cs.length = n) (h : dec w cs x) :
    Own base e n dec w (.slice (some ⟨g, 0, none⟩) 1 1) [x] :=
  ⟨cs, ⟨by simp [hl], .inr ⟨g, 1, cs.toArray, rfl, hb, hg, Nat.le_refl _, by simp [maxLen], by simp [hl], by simp [← hl]⟩⟩, Dec.single hl h⟩
end Go.Proofs.Ytkjgddcjhikdgaa

/- The contracts of record.Sizes and of the reference's Sizes. -/
namespace Go.Proofs.Ytkjgddcjhikdgaa
open Go Go.RowKit Go.Shelf

def sizesL (l : List Btc) : List Int := l.map fun x => (x.blts.length : Int)
theorem wf_len {n : Nat} (h : n ≤ 140737488355328) : (Lit.int .i64 (n : Int)).wf = true := by
  simp [Lit.wf, IntKind.min, IntKind.max, IntKind.bits, IntKind.signed]
  omega

set_option maxHeartbeats 1000000 in
theorem recordSizes (S : Nat → Prop) (v : Value) (l : List Btc) (w : World) (h : RBtcs S w v l) (hsm : Small l) :
    Calls Try.prog 42 #[v] w (GivesOwn 3 1 (dInt .i64) (sizesL l) w) := by
  obtain ⟨a, cap, rfl, h1, h2⟩ := RSl.shape h
  have hll : l.length ≤ 1000000 := hsm.1
  go_enter Try.func42, Try.ntmps42
  go_wp2
  go_loopw [2, 7] (fun s i wr => ∃ k : Nat, k ≤ l.length ∧ i = .int .i64 k ∧ Own w.heap.size 3 1 (dInt .i64) wr s (sizesL (l.take k)) ∧ Below w.heap.size w wr) (fun _ i _ => l.length - (intOf i).toNat)
  case atStart => exact ⟨0, Nat.zero_le _, rfl, Own.nil _ _ _ _ _, Below.refl _ _⟩
  case round =>
    obtain ⟨k, hk, rfl, ho, hb⟩ := hrel
    obtain ⟨ao, co, hso⟩ := Own.shape ho
    have hsl : (sizesL (l.take k)).length = k := by simp [sizesL]; omega
    rw [hsl] at hso
    subst hso
    have Hsl := Lib.hid hsl; clear hsl
    by_cases hlt : k < l.length
    · obtain ⟨b, off, c, d, rfl, hS, hbw, hc, hd, hx⟩ := RSl.at2 (h.same (.of_below hb)) k hlt
      obtain ⟨a2, cap2, rfl, rfl, hl1, -, -⟩ := hx.open
      have hz := hb.size
      have hbl : l[k].blts.length ≤ 1000000 := (hsm.2 _ (List.getElem_mem hlt)).1
      have hts : sizesL (l.take (k + 1)) = sizesL (l.take k) ++ [(l[k].blts.length : Int)] := by rw [List.take_succ_eq_append_getElem hlt]; simp only [sizesL, List.map_append, List.map_cons, List.map_nil]
      have hnw : Below wr.heap.size wr ((wr.alloc (.cells #[.string l[k].name, .slice a2 l[k].blts.length cap2] 64)).alloc (.cells #[.int .i64 l[k].blts.length] 3)) := ((Below.refl _ _).alloc (Nat.le_refl _) _).alloc (by simp) _
      have hOw := Own.below (S := fun _ => False) (dInt.stable _ _) ho hnw
      have hlo := fun b hbk => (Own.lt ho b hbk).1
      have hbx : ((wr.alloc (.cells #[.string l[k].name, .slice a2 l[k].blts.length cap2] 64)).alloc (.cells #[.int .i64 l[k].blts.length] 3)).heap[wr.heap.size + 1]? = some (.cells #[.int .i64 l[k].blts.length] 3 (0, 0)) := by simpa using box_new (wr.alloc (.cells #[.string l[k].name, .slice a2 l[k].blts.length cap2] 64)) (.cells #[.int .i64 l[k].blts.length] 3)
      have hu : RSl (From 0) 1 (dInt .i64) ((wr.alloc (.cells #[.string l[k].name, .slice a2 l[k].blts.length cap2] 64)).alloc (.cells #[.int .i64 l[k].blts.length] 3)) (.slice (some ⟨wr.heap.size + 1, 0, none⟩) 1 1) [(l[k].blts.length : Int)] := RSl.built (Nat.zero_le _) hbx rfl ⟨rfl, wf_len hl1⟩
      have Hts := Lib.hid hts; have HOw := Lib.hid hOw; have Hu := Lib.hid hu; have Hlo := Lib.hid hlo; have Hnw := Lib.hid hnw; clear hts hx ho hOw hu hlo hbx hnw
      go_wp2_with (at_builtin; go_must (refine wpList_app _ Try.infoInt rfl rfl Try.underlying23 ⟨rfl, by omega, by omega⟩ (dInt.one _) (dInt.stable (fun _ => False) _) w.heap.size HOw.out rfl Hu.out rfl (by rw [Hsl.out]; simp; omega) (by simp; omega) ?_); intro a1 c1 w1 hg hat ho1; have ho2 := ho1 (fun _ _ h => h.elim); have hb1 := (hb.trans (Hnw.out.mono hz)).grown hg (by simp; omega) Hlo.out; have Ho2 := Lib.hid ho2; have Hg := Lib.hid hg; have Hat := Lib.hid hat; clear ho1 ho2 hg hat)
      exact ⟨⟨k + 1, by omega, by go_num, by have h3 := Ho2.out; rw [List.length_append] at h3; rw [Hts.out]; exact h3, hb1⟩, by simp [intOf]; omega⟩
    · have hk' : k = l.length := by omega
      subst hk'
      have Ho := Lib.hid ho; clear ho
      go_wp2
      go_ret
      exact ⟨_, rfl, by have := Ho.out; rwa [List.take_length] at this, hb⟩

end Go.Proofs.Ytkjgddcjhikdgaa

/- Fields in bytes: what taking one gives; the contracts of octet.Take and TakeField, and of the reference's Number, Twin and TakeField. -/
namespace Go.Proofs.Ytkjgddcjhikdgaa
open Go Go.RowKit Go.Shelf

def RBytes (S : Nat → Prop) (w : World) (v : Value) (xs : List Int) : Prop := RSl S 1 (dInt .u8) w v xs
theorem RBytes.same {S : Nat → Prop} {w w' : World} {v : Value} {xs : List Int} (hs : Same S w w') (h : RBytes S w v xs) : RBytes S w' v xs := RSl.same (dInt.stable S _) hs h
theorem wf_u8' {x : Int} (h : (Lit.int .u8 x).wf = true) : 0 ≤ x ∧ x ≤ 255 := by
  simp [Lit.wf, IntKind.min, IntKind.max, IntKind.bits, IntKind.signed] at h
  omega
/-- The number at a place: two bytes, the greater first. -/
def numAt (b : List Int) (at_ : Nat) : Int := b.getD at_ 0 * 256 + b.getD (at_ + 1) 0
theorem getD_at0 {l : List Int} {k : Nat} (h : k < l.length) : l.getD k 0 = l[k] := by simp [List.getD, h]
theorem RBytes.byte {S : Nat → Prop} {w : World} {a : Option Addr} {n cap : Nat} {xs : List Int} (h : RBytes S w (.slice a n cap) xs) {k : Nat} (hk : k < xs.length) :
    ∃ b off, a = some ⟨b, off, none⟩ ∧ b < w.heap.size ∧ w.cell? ⟨b, off + k, none⟩ = some (.int .u8 xs[k]) ∧ 0 ≤ xs[k] ∧ xs[k] ≤ 255 := by
  obtain ⟨b, off, c, rfl, -, hb, hc, hd⟩ := RSl.at1 h k hk
  obtain ⟨rfl, hw⟩ := hd.open
  exact ⟨b, off, rfl, hb, hc, wf_u8' hw⟩
theorem or_bytes (x y : Int) (h0 : 0 ≤ x) (h1 : x ≤ 255) (h2 : 0 ≤ y) (h3 : y ≤ 255) : bits .or .u64 (x * 256) y = x * 256 + y := by
  obtain ⟨a, rfl⟩ : ∃ a : Nat, x = a := ⟨x.toNat, by omega⟩
  obtain ⟨b, rfl⟩ : ∃ b : Nat, y = b := ⟨y.toNat, by omega⟩
  have hb : b < 2 ^ 8 := by omega
  have h := u64_or_nat (a * 256) b (by omega) (by omega)
  have e : a * 256 ||| b = a * 256 + b := by
    have := Nat.shiftLeft_add_eq_or_of_lt hb a
    rw [Nat.shiftLeft_eq, show (2 : Nat) ^ 8 = 256 from rfl] at this
    exact this.symm
  rw [e] at h
  rw [show ((a : Int) * 256) = ((a * 256 : Nat) : Int) by omega, h]
  omega
theorem or_zero (x : Int) (h0 : 0 ≤ x) (h1 : x ≤ 255) : bits .or .u64 0 x = x := by
  have := or_bytes 0 x (by omega) (by omega) h0 h1
  rw [Int.zero_mul, Int.zero_add] at this
  exact this
set_option maxHeartbeats 400000 in
theorem octTake_short (S : Nat → Prop) (v : Value) (xs : List Int) (p : Nat) (w : World) (h : RBytes S w v xs) (hp : p ≤ xs.length) (hs : xs.length < p + 2) :
    Calls Try.prog 191 #[v, .int .i64 p, .int .i64 2] w fun e w' => e = .returned (.tuple #[.int .u64 0, .int .i64 0, .int .i64 10]) ∧ w = w' := by
  obtain ⟨a, cap, rfl, h1, h2⟩ := RSl.shape h
  have hlt : (xs.length : Int) - (p : Int) < 2 := by omega
  have hle : (p : Int) ≤ (xs.length : Int) := by omega
  go_enter Try.func191, Try.ntmps191
  go_wp2
  go_ret3
  exact ⟨rfl, rfl⟩
set_option maxHeartbeats 400000 in
theorem octTake (S : Nat → Prop) (v : Value) (xs : List Int) (p : Nat) (w : World) (h : RBytes S w v xs) (hs : p + 2 ≤ xs.length) :
    Calls Try.prog 191 #[v, .int .i64 p, .int .i64 2] w fun e w' => e = .returned (.tuple #[.int .u64 (numAt xs p), .int .i64 (p + 2 : Nat), .int .i64 0]) ∧ w = w' := by
  obtain ⟨a, cap, rfl, h1, h2⟩ := RSl.shape h
  have hlt : ¬ (xs.length : Int) - (p : Int) < 2 := by omega
  have hle : (p : Int) ≤ (xs.length : Int) := by omega
  obtain ⟨b, off, rfl, hb, hc0, h00, h01⟩ := RBytes.byte h (k := p) (by omega)
  obtain ⟨b', off', e, -, hc1, h10, h11⟩ := RBytes.byte h (k := p + 1) (by omega)
  simp only [Option.some.injEq, Addr.mk.injEq, and_true] at e
  obtain ⟨rfl, rfl⟩ := e
  have hn : numAt xs p = xs[p] * 256 + xs[p + 1] := by rw [numAt, getD_at0 (by omega), getD_at0 (by omega)]
  obtain ⟨x, hx⟩ : ∃ x, x = xs[p] := ⟨_, rfl⟩
  obtain ⟨y, hy⟩ : ∃ y, y = xs[p + 1] := ⟨_, rfl⟩
  rw [← hx] at hc0 h00 h01 hn
  rw [← hy] at hc1 h10 h11 hn
  have Hn := Lib.hid hn
  clear hn hx hy h
  go_enter Try.func191, Try.ntmps191
  go_wp2
  go_loop [6, 33] (fun n i => (i = .int .i64 0 ∧ n = .int .u64 0) ∨ (i = .int .i64 1 ∧ n = .int .u64 x) ∨ (i = .int .i64 2 ∧ n = .int .u64 (x * 256 + y))) (fun _ i => 2 - (intOf i).toNat)
  case atStart => exact .inl ⟨rfl, rfl⟩
  case round =>
    rcases hrel with ⟨rfl, rfl⟩ | ⟨rfl, rfl⟩ | ⟨rfl, rfl⟩
    · go_wp2
      exact ⟨.inr (.inl ⟨rfl, by rw [or_zero x h00 h01]⟩), by simp [intOf]⟩
    · go_wp2
      exact ⟨.inr (.inr ⟨rfl, by rw [or_bytes x y h00 h01 h10 h11]⟩), by simp [intOf]⟩
    · go_wp2
      go_ret3
      exact ⟨by rw [Hn.out]; rfl, rfl⟩
/-- A field taken: its bytes, and where the next one begins. -/
def takeG (xs : List Int) (p : Nat) : Option (List Int × Nat) :=
  if xs.length < p + 2 then none else if xs.length < p + 2 + (numAt xs p).toNat then none else some ((xs.drop (p + 2)).take (numAt xs p).toNat, p + 2 + (numAt xs p).toNat)
theorem Try.infoU8 : (Try.prog.info? 5).map (fun i => (i.zero, i.size, i.bytes)) = some (some (.int .u8 0), 1, 1) := by kernel_rfl
/-- A part of a slice. -/
theorem RSl.sub {α : Type} {S : Nat → Prop} {dec : World → List Value → α → Prop} {w : World} {b off n cap : Nat} {xs : List α} (h : RSl S 1 dec w (.slice (some ⟨b, off, none⟩) n cap) xs) {p q : Nat} (hpq : p ≤ q) (hq : q ≤ xs.length) {cap' : Nat} (hc : q - p ≤ cap') :
    RSl S 1 dec w (.slice (some ⟨b, off + p, none⟩) (q - p) cap') ((xs.drop p).take (q - p)) := by
  obtain ⟨a, cp, cells, hv, h1, h2, h3, h4⟩ := h
  simp only [Value.slice.injEq] at hv
  obtain ⟨rfl, -, rfl⟩ := hv
  have hl : ((xs.drop p).take (q - p)).length = q - p := by rw [List.length_take, List.length_drop]; omega
  have hcl : cells.length = xs.length := by have := h3.1; omega
  refine ⟨_, cap', (cells.drop p).take (q - p), by rw [hl], by rw [hl]; exact hc, by rw [hl]; omega, ⟨by rw [hl, List.length_take, List.length_drop]; omega, fun i hi => ?_⟩, ?_⟩
  · rw [hl] at hi
    have := h3.2 (p + i) (by omega)
    rw [Nat.mul_one] at this ⊢
    rw [List.getElem_take, List.getElem_drop, List.drop_take, List.drop_drop, List.take_take, Nat.min_eq_left (by omega)]
    exact this
  · rcases h4 with h4 | ⟨b', off', ha, hS, hc'⟩
    · left; rw [h4]; simp
    · simp only [Option.some.injEq, Addr.mk.injEq, and_true] at ha
      obtain ⟨rfl, rfl⟩ := ha
      refine .inr ⟨b, off + p, rfl, hS, fun j u hu => ?_⟩
      rw [List.getElem?_take] at hu
      split at hu
      · rw [List.getElem?_drop] at hu
        have := hc' (p + j) u hu
        rwa [← Nat.add_assoc] at this
      · cases hu
/-- What a call of TakeField gives: the error, or the field in memory of its own. -/
def TakeGives (xs : List Int) (p : Nat) (w : World) (e : Ending) (w' : World) : Prop :=
  match takeG xs p with
  | none => e = .returned (.tuple #[.slice none 0 0, .int .i64 0, .int .i64 10]) ∧ Below w.heap.size w w'
  | some (f, q) => ∃ a c, e = .returned (.tuple #[.slice a f.length c, .int .i64 (q : Nat), .int .i64 0]) ∧ Own w.heap.size 5 1 (dInt .u8) w' (.slice a f.length c) f ∧ Below w.heap.size w w'
set_option maxHeartbeats 1000000 in
theorem octTakeField (S : Nat → Prop) (v : Value) (xs : List Int) (p : Nat) (w : World) (h : RBytes S w v xs) (hp : p ≤ xs.length) (hl : xs.length ≤ 1000000) :
    Calls Try.prog 164 #[v, .int .i64 p] w (TakeGives xs p w) := by
  by_cases hs : xs.length < p + 2
  · have hT := octTake_short S v xs p w h hp hs
    have hg : takeG xs p = none := by rw [takeG, if_pos hs]
    obtain ⟨a, cap, rfl, h1, h2⟩ := RSl.shape h
    have HT := Lib.hid hT; have Hg := Lib.hid hg; clear hT hg h
    go_enter Try.func164, Try.ntmps164
    go_wp2_with (go_at_call 191; refine HT.out.mono ?_; rintro e w1 ⟨rfl, rfl⟩)
    go_ret3
    rw [TakeGives, Hg.out]
    exact ⟨rfl, Below.refl _ _⟩
  have hT := octTake S v xs p w h (by omega)
  obtain ⟨a, cap, rfl, h1, h2⟩ := RSl.shape h
  obtain ⟨b, off, rfl, hb, hc0, h00, h01⟩ := RBytes.byte h (k := p) (by omega)
  obtain ⟨b', off', e, -, hc1, h10, h11⟩ := RBytes.byte h (k := p + 1) (by omega)
  have hn : numAt xs p = xs[p] * 256 + xs[p + 1] := by rw [numAt, getD_at0 (by omega), getD_at0 (by omega)]
  obtain ⟨N, hN⟩ : ∃ N : Nat, numAt xs p = N := ⟨(numAt xs p).toNat, by omega⟩
  have hNb : N ≤ 65535 := by omega
  have hgd : takeG xs p = if xs.length < p + 2 + N then none else some ((xs.drop (p + 2)).take N, p + 2 + N) := by rw [takeG, if_neg hs, hN]; rfl
  rw [hN] at hT
  clear e hc0 hc1 h00 h01 h10 h11 hn hN
  by_cases hq : xs.length < p + 2 + N
  · rw [if_pos hq] at hgd
    have hlt : (xs.length : Int) - ((p + 2 : Nat) : Int) < (N : Int) := by omega
    have HT := Lib.hid hT; have Hg := Lib.hid hgd; clear hT hgd h
    go_enter Try.func164, Try.ntmps164
    go_wp2_with (go_at_call 191; refine HT.out.mono ?_; rintro e w1 ⟨rfl, rfl⟩)
    go_ret3
    rw [TakeGives, Hg.out]
    exact ⟨rfl, Below.refl _ _⟩
  rw [if_neg hq] at hgd
  have hlt : ¬ (xs.length : Int) - ((p + 2 : Nat) : Int) < (N : Int) := by omega
  have hcap := RSl.cap h
  have hF : ((xs.drop (p + 2)).take N).length = N := by rw [List.length_take, List.length_drop]; omega
  obtain ⟨F, hFe⟩ : ∃ F, F = (xs.drop (p + 2)).take N := ⟨_, rfl⟩
  rw [← hFe] at hgd hF
  rcases Nat.eq_zero_or_pos N with h0 | h0
  · subst h0
    have hFn : F = [] := List.eq_nil_of_length_eq_zero hF
    subst hFn
    have hu : ∀ a c, RSl S 1 (dInt .u8) w (.slice a 0 c) [] := fun a c => ⟨a, c, [], rfl, Nat.zero_le _, by simp, Dec.nil _ _ _, .inl rfl⟩
    have HT := Lib.hid hT; have Hg := Lib.hid hgd; have Hu := Lib.hid hu; clear hT hgd h hu hFe hF
    go_enter Try.func164, Try.ntmps164
    go_wp2_with (first
      | (go_at_call 191; refine HT.out.mono ?_; rintro e w1 ⟨rfl, rfl⟩)
      | (at_builtin; go_must (refine wpList_app _ Try.infoU8 rfl rfl Try.underlying61 ⟨rfl, by omega, by omega⟩ (dInt.one _) (dInt.stable (fun _ => False) _) w.heap.size (Own.nil _ _ _ _ _) rfl (Hu.out _ _) rfl (by simp) (Nat.le_refl _) ?_); intro a1 c1 w1 hg hat ho1; have ho2 := ho1 (fun _ _ h => h.elim); have hb1 : Below w.heap.size w w1 := (Below.refl _ _).grown hg (Nat.le_refl _) (by simp [Value.ownBlock]); have Ho2 := Lib.hid ho2; clear ho1 ho2 hg hat))
    all_goals
      go_ret3
      rw [TakeGives, Hg.out]
      exact ⟨a1, c1, by first | rfl | simp, by simpa using Ho2.out, hb1⟩
  · have hsub := RSl.sub h (p := p + 2) (q := p + 2 + N) (by omega) (by omega) (cap' := cap - (p + 2)) (by omega)
    have hfl : (xs.drop (p + 2)).take (p + 2 + N - (p + 2)) = F := by rw [show p + 2 + N - (p + 2) = N by omega, hFe]
    rw [hfl] at hsub
    clear hfl
    have hcne : ¬ cap = p + 2 := by omega
    have HT := Lib.hid hT; have Hg := Lib.hid hgd; have Hsub := Lib.hid hsub; have HF := Lib.hid hF; clear hT hgd h hsub hFe hF
    go_enter Try.func164, Try.ntmps164
    go_wp2_with (first
      | (go_at_call 191; refine HT.out.mono ?_; rintro e w1 ⟨rfl, rfl⟩)
      | (at_builtin; go_must (refine wpList_app _ Try.infoU8 rfl rfl Try.underlying61 ⟨rfl, by omega, by omega⟩ (dInt.one _) (dInt.stable (fun _ => False) _) w.heap.size (Own.nil _ _ _ _ _) rfl Hsub.out rfl (by have := HF.out; simp; omega) (Nat.le_refl _) ?_); intro a1 c1 w1 hg hat ho1; have ho2 := ho1 (fun _ _ h => h.elim); have hb1 : Below w.heap.size w w1 := (Below.refl _ _).grown hg (Nat.le_refl _) (by simp [Value.ownBlock]); have Ho2 := Lib.hid ho2; clear ho1 ho2 hg hat))
    all_goals
      go_ret3
      rw [TakeGives, Hg.out]
      exact ⟨a1, c1, by first | rfl | simp, by simpa using Ho2.out, hb1⟩
end Go.Proofs.Ytkjgddcjhikdgaa
