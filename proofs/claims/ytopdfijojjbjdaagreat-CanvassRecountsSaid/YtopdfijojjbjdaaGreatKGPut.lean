/- Texts of one claim, put together: Copy, Copy2, TwinR, TwinP, PutS, PutG, Ref08, Ref26b, PutR, Sizes, Oct. -/
import Derived.Test.YtopdfijojjbjdaaGreatKGFoot
import Derived.Test.YtopdfijojjbjdaaGreatProg
import Derived.Test.YtopdfijojjbjdaaGreatKGBal
import Derived.WalkSpells
import Derived.WalkLawsBesides
import Derived.Deep.RegionLaw
import Derived.Laws.BitsAllLaws

/- The contracts of the copies: slices.Clone of integers, of ballots, of batches; copies of one ballot. -/
namespace Go.Proofs.YtopdfijojjbjdaaGreat
open Go Go.RowKit

theorem Tryz.infoInt : (Tryz.prog.info? 3).map (fun i => (i.zero, i.size, i.bytes)) = some (some (.int .i64 0), 1, 8) := by kernel_rfl
theorem Tryz.infoBlt : (Tryz.prog.info? 41).map (fun i => (i.zero, i.size, i.bytes)) = some (some (.agg #[.int .u8 0, .slice none 0 0]), 2, 32) := by kernel_rfl
theorem Tryz.infoBtc : (Tryz.prog.info? 55).map (fun i => (i.zero, i.size, i.bytes)) = some (some (.agg #[.string ⟨#[]⟩, .slice none 0 0]), 2, 40) := by kernel_rfl

/-- The call returns a row of its own. -/
def GivesOwn {α : Type} (ty : TypeId) (n : Nat) (dec : World → List Value → α → Prop) (xs : List α) (w : World) (e : Ending) (w' : World) : Prop :=
  ∃ v, e = .returned v ∧ Own w.heap.size ty n dec w' v xs ∧ Below w.heap.size w w'
def GivesBlt (x : Blt) (w : World) (e : Ending) (w' : World) : Prop :=
  ∃ v, e = .returned v ∧ WBlt (From w.heap.size) w' v x ∧ Below w.heap.size w w'

theorem nil_of_none {α : Type} {S : Nat → Prop} {n : Nat} {dec : World → List Value → α → Prop} {w : World} {m cap : Nat} {xs : List α} (h : RSl S n dec w (.slice none m cap) xs) : xs = [] := by
  obtain ⟨a, cap, cells, hv, _, _, _, h⟩ := h
  simp only [Value.slice.injEq] at hv
  obtain ⟨rfl, _⟩ := hv
  rcases h with h | ⟨b, off, h, _⟩
  · exact h
  · cases h

set_option maxHeartbeats 400000 in
theorem cloneInts (S : Nat → Prop) (v : Value) (xs : List Int) (w : World) (h : RInts S w v xs) (hl : xs.length ≤ 1000000000) :
    Calls Tryz.prog 54 #[v] w (GivesOwn 3 1 (dInt .i64) xs w) := by
  obtain ⟨a, cap, rfl, h1, h2⟩ := RSl.shape h
  have hnil := fun (w : World) (a : Option Addr) (n c : Nat) => Lib.run_eql_slice_nil (P := Tryz.prog) w 29 3 a n c 0 0 Tryz.underlying29
  cases a with
  | none =>
    obtain rfl := nil_of_none h
    go_enter Tryz.func54, Tryz.ntmps54
    go_wp2
    go_ret
    exact ⟨_, rfl, Own.nil _ _ _ _ _, Below.refl _ _⟩
  | some ad =>
    have hb0 : Below w.heap.size w (w.alloc (.cells #[] 3)) := (Below.refl _ _).alloc (Nat.le_refl _) _
    have hu := RSl.same (dInt.stable (Cut S w.heap.size) .i64) (.of_below hb0) h.cut
    go_enter Tryz.func54, Tryz.ntmps54
    go_wp2_with (at_builtin; refine wpList_app _ Tryz.infoInt rfl rfl Tryz.underlying29 ⟨rfl, by omega, by omega⟩ (dInt.one _) (dInt.stable (Cut S w.heap.size) .i64) w.heap.size (Own.made _ _ _ _ w #[] 0 (Nat.le_refl _) (by simp [maxLen]) rfl) rfl hu rfl (by simp; omega) (by simp) ?_; intro a' c' w' hg hat ho)
    go_ret
    have ho' := ho (.of_grown hg (fun b hb => by simp only [Value.ownBlock, ne_eq, Option.some.injEq]; have := hb.2; omega))
    exact ⟨_, rfl, ho', hb0.grown hg (by simp) (by simp [Value.ownBlock])⟩
set_option maxHeartbeats 400000 in
theorem cloneBlts (S : Nat → Prop) (v : Value) (xs : List Blt) (w : World) (h : RBlts S w v xs) (hl : xs.length ≤ 1000000000) :
    Calls Tryz.prog 48 #[v] w (GivesOwn 41 2 (dBlt (Cut S w.heap.size)) xs w) := by
  obtain ⟨a, cap, rfl, h1, h2⟩ := RSl.shape h
  have hnil := fun (w : World) (a : Option Addr) (n c : Nat) => Lib.run_eql_slice_nil (P := Tryz.prog) w 53 41 a n c 0 0 Tryz.underlying53
  cases a with
  | none =>
    obtain rfl := nil_of_none h
    go_enter Tryz.func48, Tryz.ntmps48
    go_wp2
    go_ret
    exact ⟨_, rfl, Own.nil _ _ _ _ _, Below.refl _ _⟩
  | some ad =>
    have hb0 : Below w.heap.size w (w.alloc (.cells #[] 41)) := (Below.refl _ _).alloc (Nat.le_refl _) _
    have hu := RSl.same (dBlt.stable (Cut S w.heap.size)) (.of_below hb0) h.cut
    go_enter Tryz.func48, Tryz.ntmps48
    go_wp2_with (at_builtin; refine wpList_app _ Tryz.infoBlt rfl rfl Tryz.underlying53 ⟨rfl, by omega, by omega⟩ (dBlt.one _) (dBlt.stable (Cut S w.heap.size)) w.heap.size (Own.made _ _ _ _ w #[] 0 (Nat.le_refl _) (by simp [maxLen]) rfl) rfl hu rfl (by simp; omega) (by simp) ?_; intro a' c' w' hg hat ho)
    go_ret
    have ho' := ho (.of_grown hg (fun b hb => by simp only [Value.ownBlock, ne_eq, Option.some.injEq]; have := hb.2; omega))
    exact ⟨_, rfl, ho', hb0.grown hg (by simp) (by simp [Value.ownBlock])⟩
set_option maxHeartbeats 400000 in
theorem cloneBtcs (S : Nat → Prop) (v : Value) (xs : List Btc) (w : World) (h : RBtcs S w v xs) (hl : xs.length ≤ 1000000000) :
    Calls Tryz.prog 47 #[v] w (GivesOwn 55 2 (dBtc (Cut S w.heap.size)) xs w) := by
  obtain ⟨a, cap, rfl, h1, h2⟩ := RSl.shape h
  have hnil := fun (w : World) (a : Option Addr) (n c : Nat) => Lib.run_eql_slice_nil (P := Tryz.prog) w 22 55 a n c 0 0 Tryz.underlying22
  cases a with
  | none =>
    obtain rfl := nil_of_none h
    go_enter Tryz.func47, Tryz.ntmps47
    go_wp2
    go_ret
    exact ⟨_, rfl, Own.nil _ _ _ _ _, Below.refl _ _⟩
  | some ad =>
    have hb0 : Below w.heap.size w (w.alloc (.cells #[] 55)) := (Below.refl _ _).alloc (Nat.le_refl _) _
    have hu := RSl.same (dBtc.stable (Cut S w.heap.size)) (.of_below hb0) h.cut
    go_enter Tryz.func47, Tryz.ntmps47
    go_wp2_with (at_builtin; refine wpList_app _ Tryz.infoBtc rfl rfl Tryz.underlying22 ⟨rfl, by omega, by omega⟩ (dBtc.one _) (dBtc.stable (Cut S w.heap.size)) w.heap.size (Own.made _ _ _ _ w #[] 0 (Nat.le_refl _) (by simp [maxLen]) rfl) rfl hu rfl (by simp; omega) (by simp) ?_; intro a' c' w' hg hat ho)
    go_ret
    have ho' := ho (.of_grown hg (fun b hb => by simp only [Value.ownBlock, ne_eq, Option.some.injEq]; have := hb.2; omega))
    exact ⟨_, rfl, ho', hb0.grown hg (by simp) (by simp [Value.ownBlock])⟩
end Go.Proofs.YtopdfijojjbjdaaGreat

/- The contracts of the copies of one ballot. -/
namespace Go.Proofs.YtopdfijojjbjdaaGreat
open Go Go.RowKit

theorem cloneInts2 (S : Nat → Prop) (v : Value) (xs : List Int) (w : World) (h : RInts S w v xs) (hl : xs.length ≤ 1000000000) :
    Calls Tryz.prog 54 #[v] w fun e w' => ∃ a c, e = .returned (.slice a xs.length c) ∧ WSl (From w.heap.size) 1 (dInt .i64) w' (.slice a xs.length c) xs ∧ Below w.heap.size w w' :=
  (cloneInts S v xs w h hl).mono fun e w' ⟨v', he, hv, hb⟩ => by
    obtain ⟨a, c, rfl⟩ := Own.shape hv
    obtain ⟨_, _, _, _, hl2⟩ := RSl.shape h
    exact ⟨a, c, he, Own.wsl hv hl2, hb⟩

set_option maxHeartbeats 400000 in
theorem copied (S : Nat → Prop) (v : Value) (x : Blt) (w : World) (h : VBlt S w v x) (hl : x.marks.length ≤ 1000000000) :
    Calls Tryz.prog 29 #[v] w (GivesBlt x w) := by
  obtain ⟨c, d, rfl, h⟩ := h
  obtain ⟨a, cap, rfl, rfl, hl', hk1, hk2, h⟩ := h.open
  have hb0 : Below w.heap.size w ((w.alloc (.cells #[.int .u8 x.kind, .slice a x.marks.length cap] 41)).alloc (.cells #[.int .u8 0, .slice none 0 0] 41)) :=
    ((Below.refl _ _).alloc (Nat.le_refl _) _).alloc (by simp) _
  have h' := h.same (.of_below hb0)
  have hgA : ((w.alloc (.cells #[.int .u8 x.kind, .slice a x.marks.length cap] 41)).alloc (.cells #[.int .u8 0, .slice none 0 0] 41)).heap[w.heap.size]? = some (.cells #[.int .u8 x.kind, .slice a x.marks.length cap] 41 (0, 0)) := box_old _ (box_new _ _)
  have hgB : ((w.alloc (.cells #[.int .u8 x.kind, .slice a x.marks.length cap] 41)).alloc (.cells #[.int .u8 0, .slice none 0 0] 41)).heap[w.heap.size + 1]? = some (.cells #[.int .u8 0, .slice none 0 0] 41 (0, 0)) := by simpa using box_new (w.alloc (.cells #[.int .u8 x.kind, .slice a x.marks.length cap] 41)) (.cells #[.int .u8 0, .slice none 0 0] 41)
  go_enter Tryz.func29, Tryz.ntmps29
  go_wp2_with (go_at_call 54; refine (cloneInts2 S _ x.marks _ h' hl).mono ?_; rintro e w1 ⟨a1, c1, rfl, hv1, hb1⟩; obtain ⟨g1, hc1, hf1⟩ := own_box hb1 (by simp; omega) hgA; obtain ⟨g2, hc2, hf2⟩ := own_box hb1 (by simp) hgB; have hz1 := hb1.size; simp at hz1)
  refine bodyPost_ret (v := .agg #[.int .u8 x.kind, .slice a1 x.marks.length c1]) (by simp [results, Tryz.results29, go_sem, hc2]) rfl ⟨_, rfl, ⟨_, _, rfl, _, rfl, hk1, hk2, ?_⟩, ?_⟩
  · refine WSl.mono (S := From (w.heap.size + 2)) (fun _ _ _ h => h) (fun b hb => by simp [From] at hb ⊢; omega) (WSl.same (dInt.stable _ _) ?_ (WSl.mono (T := From (w.heap.size + 2)) (fun _ _ _ h => h) (fun b hb => by simp [From] at hb ⊢; omega) hv1))
    exact (((Same.refl _ _).setCell (by simp [From]) _).setCell (by simp [From]) _).setCell (by simp [From]) _
  · exact (((hb0.trans (hb1.mono (by simp; omega))).setCell (p := ⟨w.heap.size, 1, none⟩) (Nat.le_refl _) _).setCell (p := ⟨w.heap.size + 1, 0, none⟩) (by simp) _).setCell (p := ⟨w.heap.size + 1, 1, none⟩) (by simp) _
end Go.Proofs.YtopdfijojjbjdaaGreat

/- The contract of the reference's Twin. -/
namespace Go.Proofs.YtopdfijojjbjdaaGreat
open Go Go.RowKit

/-- Batches of everyday size. -/
def Small (l : List Btc) : Prop := l.length ≤ 1000000 ∧ ∀ b ∈ l, b.blts.length ≤ 1000000 ∧ ∀ x ∈ b.blts, x.marks.length ≤ 1000000
end Go.Proofs.YtopdfijojjbjdaaGreat

/- The contract of record.Twin. -/
namespace Go.Proofs.YtopdfijojjbjdaaGreat
open Go Go.RowKit

theorem copied2 (S : Nat → Prop) (v : Value) (x : Blt) (w : World) (h : VBlt S w v x) (hl : x.marks.length ≤ 1000000000) :
    Calls Tryz.prog 29 #[v] w fun e w' => ∃ d, e = .returned (.agg #[.int .u8 x.kind, d]) ∧ wBlt (Span w.heap.size w'.heap.size) w' [.int .u8 x.kind, d] x ∧ Below w.heap.size w w' :=
  (copied S v x w h hl).mono fun e w' ⟨v', he, ⟨c, d, hv, hd⟩, hb⟩ => by
    have hd' := hd
    obtain ⟨a, cap, rfl, rfl, _⟩ := hd.toD.open
    exact ⟨_, by rw [he, hv], (hd'.cut).mono (fun b hb => ⟨hb.1, hb.2⟩), hb⟩

set_option maxHeartbeats 2000000 in
set_option maxRecDepth 100000 in
theorem twin (S : Nat → Prop) (v : Value) (l : List Btc) (w : World) (h : RBtcs S w v l) (hsm : Small l) :
    Calls Tryz.prog 22 #[v] w (fun e w' => ∃ v ys, e = .returned v ∧ Twinned w.heap.size w' v ys ∧ ys.map (·.x) = l ∧ Below w.heap.size w w') := by
  obtain ⟨hs1, hs2⟩ := hsm
  have HS2 := Lib.hid hs2; clear hs2
  obtain ⟨a, cap, hv, h1, h2⟩ := RSl.shape h
  have HC := Lib.hid (cloneBtcs S v l w h (by omega))
  have hSlt : ∀ b, Cut S w.heap.size b → b < w.heap.size := fun b hb => hb.2
  have HSlt := Lib.hid hSlt; clear hSlt
  subst hv
  go_enter Tryz.func22, Tryz.ntmps22
  go_wp2_with (go_at_call 47; refine HC.out.mono ?_; rintro e w1 ⟨v1, rfl, ho1, hb1⟩; obtain ⟨a1, c1, rfl⟩ := ho1.shape)
  have hsz1 := hb1.size
  go_loopw [10] (fun i wr => ∃ (k : Nat) (zs : List (Sp × Bool)), k ≤ l.length ∧ i = .int .i64 k ∧ MixOut (Cut S w.heap.size) w.heap.size wr (.slice a1 l.length c1) l k zs ∧ Below w.heap.size w wr) (fun i _ => l.length - (intOf i).toNat)
  case atStart => exact ⟨0, _, Nat.zero_le _, rfl, MixOut.start ho1, hb1⟩
  case round =>
    obtain ⟨k, zs, hk, rfl, hmo, hb⟩ := hrel
    have hszr := hb.size
    by_cases hlt : k < l.length
    · have hzl : zs.length = l.length := by rw [← hmo.2.1]; simp
      have hkz : k < zs.length := by omega
      obtain ⟨g, c0, d0, rfl, hg1, hg2, hc, hd, hf, hx⟩ := Own.at2 hmo.1 hkz
      have hxk : zs[k].1.x = l[k] := by
        have := congrArg (fun q => q[k]?) hmo.2.1
        simpa [hkz, hlt] using this
      have htag : zs[k].2 = false := by rw [hmo.2.2.1 k hkz]; simp
      simp only [mixC, htag, Bool.false_eq_true, if_false, hxk] at hx
      obtain ⟨a', cap', rfl, rfl, hl1, hl2, hI⟩ := hx.open
      obtain ⟨hsb, hsm⟩ := HS2.out l[k] (List.getElem_mem hlt)
      have HSM := Lib.hid hsm; clear hsm
      have HCB := Lib.hid (cloneBlts (Cut S w.heap.size) _ l[k].blts wr hI (by omega))
      have hf1 := hf (k * 2 + 1)
      have HF := Lib.hid hf; clear hf
      have HMO := Lib.hid hmo; clear hmo
      go_wp2_with (go_at_call 48; refine HCB.out.mono ?_; rintro e w2 ⟨v2, rfl, ho2, hb2⟩; obtain ⟨a2, c2, rfl⟩ := ho2.shape; have hcw := (Same.of_below (S := Any) hb2).cell trivial hd; have hfw := (hb2.frozen (p := ⟨g, k * 2 + 1, none⟩) hg2).trans hf1)
      obtain ⟨wo, rfl⟩ : ∃ wo, wo = wr := ⟨_, rfl⟩
      have hgB : g < w2.heap.size := by have := hb2.size; omega
      have hoc : (w2.setCell ⟨g, k * 2 + 1, none⟩ (.slice a2 l[k].blts.length c2)).cell? ⟨g, k * 2 + 1, none⟩ = some (.slice a2 l[k].blts.length c2) := World.cell?_setCell_same _ _ _ hcw
      have hz3 : (w2.setCell ⟨g, k * 2 + 1, none⟩ (.slice a2 l[k].blts.length c2)).heap.size = w2.heap.size := size_setCell' _ _ _
      have hv2lt : ∀ b, (Value.slice a2 l[k].blts.length c2).ownBlock = some b → wo.heap.size ≤ b ∧ b < w2.heap.size := ho2.lt
      have Hv2lt := Lib.hid hv2lt; clear hv2lt
      have hsz2 := hb2.size
      go_loopw [29] (fun i wr => ∃ (j : Nat) (zs2 : List (Blt × Bool)), j ≤ l[k].blts.length ∧ i = .int .i64 j ∧ MixIn (Cut S w.heap.size) wo.heap.size wr (.slice a2 l[k].blts.length c2) l[k].blts j zs2 ∧
        (w2.setCell ⟨g, k * 2 + 1, none⟩ (.slice a2 l[k].blts.length c2)).grownBy wr (Value.slice a2 l[k].blts.length c2).ownBlock) (fun i _ => l[k].blts.length - (intOf i).toNat)
      case atStart => exact ⟨0, _, Nat.zero_le _, rfl, MixIn.start (Own.dmono (fun _ _ h => h.mono fun _ => Cut.sub) (Own.setCell (dBlt.stable (Cut (Cut S w.heap.size) wo.heap.size)) ho2 (p := ⟨g, k * 2 + 1, none⟩) hg2 (fun hh => by have := hh.1.2; simp at this; omega) _)), gb_refl _ _⟩
      case round =>
        obtain ⟨j, zs2, hj, rfl, hmi, hgr⟩ := hrel
        have hocr : wr.cell? ⟨g, k * 2 + 1, none⟩ = some (.slice a2 l[k].blts.length c2) := hgr.cell hoc (fun he => by have := (Hv2lt.out g he.symm).1; omega)
        have hzr := hgr.size
        rw [hz3] at hzr
        have HC0 := Lib.hid hc
        clear hc hd hcw hfw
        by_cases hjl : j < l[k].blts.length
        · have hzl2 : zs2.length = l[k].blts.length := by rw [← hmi.2.1]; simp
          have hjz : j < zs2.length := by omega
          obtain ⟨g2, c3, d3, rfl, hg21, hg22, hc2, hd2, hf2, hx2⟩ := Own.at2 hmi.1 hjz
          have hxj : zs2[j].1 = l[k].blts[j] := by
            have := congrArg (fun q => q[j]?) hmi.2.1
            simpa [hjz, hjl] using this
          have htag2 : zs2[j].2 = false := by rw [hmi.2.2 j hjz]; simp
          simp only [mixB, htag2, Bool.false_eq_true, if_false, hxj] at hx2
          have hml := HSM.out l[k].blts[j] (List.getElem_mem hjl)
          have hx2' := hx2
          obtain ⟨a3, cap3, rfl, rfl, hl3, -, -, -⟩ := hx2'.open
          have hVB : ∀ W', Below wr.heap.size wr W' → VBlt (Cut S w.heap.size) W' (.agg #[.int .u8 l[k].blts[j].kind, .slice a3 l[k].blts[j].marks.length cap3]) l[k].blts[j] := fun W' hW => ⟨_, _, rfl, dBlt.stable _ _ _ _ _ (.of_below hW) hx2⟩
          have HVB := Lib.hid hVB; clear hVB hx2'
          have Hf2 := Lib.hid hf2; clear hf2
          have Hmi := Lib.hid hmi; clear hmi
          have Hgr := Lib.hid hgr; clear hgr
          go_wp2
          go_region_law (go_simp; go_at_call 29; refine (copied2 _ _ l[k].blts[j] _ (HVB.out _ (Below.drew (Below.refl _ _))) (by omega)).mono ?_; rintro e w4 ⟨d4, rfl, hv4, hb4⟩; obtain ⟨a4, c4, -, rfl, -⟩ := hv4.toD.open; have k1 := (Same.of_below (S := Any) hb4).cell trivial hocr; have k2 := (Same.of_below (S := Any) hb4).cell trivial hc2; have k3 := (Same.of_below (S := Any) hb4).cell trivial hd2; have k4 := (hb4.frozen (p := ⟨g2, j * 2, none⟩) hg22).trans (Hf2.out _); have k5 := (hb4.frozen (p := ⟨g2, j * 2 + 1, none⟩) hg22).trans (Hf2.out _))
          all_goals
            go_wp2
            have hb5 : Below wr.heap.size wr w4 := (Below.drew (Below.refl _ _)).trans hb4
            exact ⟨⟨j + 1, _, by omega, by go_num, Hmi.out.step hjz (fun b hh => by have := HSlt.out b hh; omega) (by omega) hb5 (by rw [hxj]; exact hv4), gb_trans Hgr.out (gb_trans (gb_below hb5 _) (gb_trans (gb_setCell w4 g2 _ _) (gb_setCell _ g2 _ _)))⟩, by simp [intOf]; omega⟩
        · have hjk : j = l[k].blts.length := by omega
          subst hjk
          have Hmi := Lib.hid hmi; clear hmi
          have Hgr := Lib.hid hgr; clear hgr
          go_wp2
          exact ⟨⟨k + 1, _, by omega, by go_num, HMO.out.step hkz HSlt.out hszr hb2 Hgr.out (by rw [hxk]; exact HC0.out) (by rw [hxk]; exact hl2) (by rw [hxk]; exact hl1) (fun b hb => (Hv2lt.out b hb).1) (by rw [hxk]; exact Hmi.out.done), ((hb.trans (hb2.mono hszr)).setCell (p := ⟨g, k * 2 + 1, none⟩) hg1 _).grown Hgr.out (by rw [hz3]; omega) (fun b hb => by have := (Hv2lt.out b hb).1; omega)⟩, by simp [intOf]; omega⟩
    · have hk' : k = l.length := by omega
      subst hk'
      have HMO := Lib.hid hmo; clear hmo
      go_wp2
      go_ret
      exact ⟨_, _, rfl, HMO.out.done.1, HMO.out.done.2, hb⟩
end Go.Proofs.YtopdfijojjbjdaaGreat

/- What Put answers. -/
namespace Go.Proofs.YtopdfijojjbjdaaGreat
open Go Go.RowKit

def atI (l : List Btc) (nm : ByteArray) : Int := idxB (fun b => sameName b.name nm) l
def grow1 (b : Blt) (x : Btc) : Btc := ⟨x.name, x.blts ++ [b]⟩
def put1 (l : List Btc) (nm : ByteArray) (b : Blt) : List Btc := if atI l nm < 0 then l ++ [⟨nm, [b]⟩] else l.modify (atI l nm).toNat (grow1 b)
def fullB (l : List Btc) (nm : ByteArray) : Bool := if atI l nm < 0 then decide (l.length = 16) else ((l[(atI l nm).toNat]?).map fun x => decide (x.blts.length = 64)).getD false
def putI (l : List Btc) (c kind : Int) (nm : ByteArray) (b : Blt) : Int :=
  if recCheck l c kind = 0 then (if nameB nm && fitsB b c kind then (if fullB l nm then 9 else 0) else 2) else recCheck l c kind
def putL (l : List Btc) (c kind : Int) (nm : ByteArray) (b : Blt) : List Btc := if putI l c kind nm b = 0 then put1 l nm b else []
/-- What a call of Put gives. -/
def PutGives (l : List Btc) (c kind : Int) (nm : ByteArray) (b : Blt) (w : World) (e : Ending) (w' : World) : Prop :=
  ∃ v, e = .returned (.tuple #[v, .int .i64 (putI l c kind nm b)]) ∧ WBtcs (From w.heap.size) w' v (putL l c kind nm b) ∧ Below w.heap.size w w'
theorem putL_nil {l : List Btc} {c kind : Int} {nm : ByteArray} {b : Blt} (h : putI l c kind nm b ≠ 0) : putL l c kind nm b = [] := by rw [putL, if_neg h]
theorem PutGives.none {l : List Btc} {c kind : Int} {nm : ByteArray} {b : Blt} {w w' : World} {i : Int} (hi : putI l c kind nm b = i) (h0 : i ≠ 0) (hb : Below w.heap.size w w') :
    PutGives l c kind nm b w (.returned (.tuple #[.slice none 0 0, .int .i64 i])) w' := ⟨_, by rw [hi], by rw [putL_nil (by rw [hi]; exact h0)]; exact WSl.nil, hb⟩
theorem PutGives.some {l : List Btc} {c kind : Int} {nm : ByteArray} {b : Blt} {w w' : World} {v : Value} {L : List Btc} {base : Nat} (hi : putI l c kind nm b = 0) (hl : putL l c kind nm b = L) (hv : WBtcs (From base) w' v L) (hbase : w.heap.size ≤ base) (hb : Below w.heap.size w w') :
    PutGives l c kind nm b w (.returned (.tuple #[v, .int .i64 0])) w' :=
  ⟨v, by rw [hi], by rw [hl]; exact WSl.mono (fun _ _ _ hh => hh.mono (T := From w.heap.size) fun c hc => by simp only [From] at hc ⊢; omega) (fun c hc => by simp only [From] at hc ⊢; omega) hv, hb⟩
theorem small_of {l : List Btc} (hg : great l = false) : Small l := by
  simp only [great, Bool.or_eq_false_iff, decide_eq_false_iff_not] at hg
  refine ⟨by omega, fun b hb => ?_⟩
  have := List.any_eq_false.1 hg.2 b hb
  simp only [greatBtc, Bool.or_eq_true, decide_eq_true_eq, not_or] at this
  refine ⟨by omega, fun x hx => ?_⟩
  have h2 := this.2
  simp only [Bool.not_eq_true] at h2
  have := List.any_eq_false.1 h2 x hx
  simp [greatBlt] at this
  omega
end Go.Proofs.YtopdfijojjbjdaaGreat

/- One more ballot in a batch of twinned batches. -/
namespace Go.Proofs.YtopdfijojjbjdaaGreat
open Go Go.RowKit

section
variable {P : Program} (w : World)
theorem wpList_appV {α : Type} {z : Value} {size bytes : Nat} {ops : Array Oper} {rest : List Oper} {o : Oper} {a : Act} {Q : Exit → Act → World → Prop} {e t : TypeId} (hinfo : (P.info? e).map (fun i => (i.zero, i.size, i.bytes)) = some (some z, size, bytes))
    (hgd : o.guard = none) {s x : Operand} (ho : o.op = .call { callee := .builtin .append, args := #[s, x], argTypes := #[t, t] }) (ht : P.underlying t = some (.slice e))
    (hzs : z.cells.size = size ∧ 0 < size ∧ 0 < bytes) {S T : Nat → Prop} {dec : World → List Value → α → Prop} (h1 : OneC dec) (hst : Stable T dec) (base : Nat)
    {v : Value} {xs : List α} (hown : Own base e size dec w v xs) (hs : a.eval s = v) {u : Value} {ys : List α} (hu : RSl S size dec w u ys) (hx : a.eval x = u)
    (h63 : (xs.length + ys.length) * bytes ≤ 140737488355328) (hbase : base ≤ w.heap.size)
    (h : ∀ a' n' c' w', w.grownBy w' v.ownBlock → ((Value.slice a' n' c').ownBlock = v.ownBlock ∨ (Value.slice a' n' c').ownBlock = some w.heap.size) → (Same T w w' → Own base e size dec w' (.slice a' n' c') (xs ++ ys)) →
      wpList P ops Q rest (a.put o.dst (.slice a' n' c')) w') : wpList P ops Q (o :: rest) a w :=
  wpList_app w hinfo hgd ho ht hzs h1 hst base hown hs hu hx h63 hbase fun a' c' w' => h a' _ c' w'
end
/-- Where the ballots of the grown row lie: in the old row's span or in what has been built since, apart from the row. -/
def Gr (y : Sp) (d : Value) (m m' : Nat) : Nat → Prop := fun b => InRow y.lo y.hi d b ∨ (m ≤ b ∧ b < m')
theorem Twinned.at {base : Nat} {w : World} {a : Option Addr} {n cap : Nat} {ys : List Sp} (h : Twinned base w (.slice a n cap) ys) {k : Nat} (hk : k < ys.length) :
    ∃ g d, a = some ⟨g, 0, none⟩ ∧ base ≤ g ∧ g < w.heap.size ∧ w.cell? ⟨g, k * 2, none⟩ = some (.string ys[k].x.name) ∧ w.cell? ⟨g, k * 2 + 1, none⟩ = some d ∧ (∀ o, w.frozen? ⟨g, o, none⟩ = false) ∧
      ys[k].x.name.size ≤ 140737488355328 ∧ ys[k].x.blts.length ≤ 140737488355328 ∧ (∀ b, d.ownBlock = some b → ys[k].lo ≤ b ∧ b < ys[k].hi) ∧ (ys[k].lo ≤ ys[k].hi ∧ ys[k].hi ≤ w.heap.size) ∧ base ≤ ys[k].lo ∧ (∀ b, ys[k].lo ≤ b → b < ys[k].hi → b ≠ g) ∧
      (∃ a2 c2, d = .slice a2 ys[k].x.blts.length c2) ∧ Own ys[k].lo 41 2 (wBlt (InRow ys[k].lo ys[k].hi d)) w d ys[k].x.blts := by
  obtain ⟨g, c, d, rfl, h1, h2, h3, h4, h5, h6, v', h7, h8, h9, h10, h11⟩ := Own.at2 h.1 hk
  simp only [List.cons.injEq, and_true] at h7
  obtain ⟨rfl, rfl⟩ := h7
  have hm := h.2.2 _ (List.getElem_mem hk)
  exact ⟨g, d, rfl, h1, h2, h3, h4, h5, h8, h9, fun b hb => ⟨(Own.lt h11 b hb).1, h10 b hb⟩, hm.2, hm.1, fun b k1 k2 e => (h6 b k1 k2).2.2 (by rw [e]; rfl), Own.shape h11, h11⟩
/-- The ballot that is appended, in the world behind its copy. -/
theorem Gr.new {y : Sp} {d : Value} {w w2 : World} {cs : List Value} {b : Blt} (h : wBlt (Span w.heap.size w2.heap.size) w2 cs b) (o : Obj) : wBlt (Gr y d w.heap.size w2.heap.size) (w2.alloc o) cs b :=
  (wBlt.stable _ _ _ _ _ (.of_below ((Below.refl _ _).alloc (Nat.le_refl _) _)) h).mono fun _ hc => .inr hc
theorem Gr.old {y : Sp} {d : Value} {w w2 : World} (h : Own y.lo 41 2 (wBlt (InRow y.lo y.hi d)) w d y.x.blts) (hb : Below w.heap.size w w2) (o : Obj) (m m' : Nat) :
    Own y.lo 41 2 (wBlt (Gr y d m m')) (w2.alloc o) d y.x.blts :=
  Own.dmono (fun _ _ hh => hh.mono fun _ hc => .inl hc) (Own.below (wBlt.stable _) h (hb.alloc hb.size o))
theorem Gr.same {y : Sp} {d : Value} {w w2 w3 : World} {o : Obj} (hgr : (w2.alloc o).grownBy w3 d.ownBlock) (_ : Below w.heap.size w w2) (hd : ∀ b, d.ownBlock = some b → b < w.heap.size) : Same (Gr y d w.heap.size w2.heap.size) (w2.alloc o) w3 :=
  .of_grown hgr fun c hc e => by
    rcases hc with hc | hc
    · exact hc.2.2 e
    · have := hd c e.symm; have := hc.1; omega
end Go.Proofs.YtopdfijojjbjdaaGreat

/- The contracts of the reference's ballots: place, Fine, Fits. -/
namespace Go.Proofs.YtopdfijojjbjdaaGreat
open Go Go.RowKit Go.Shelf

/-- What a prefix has shown. -/
structure GoodTo (kind c : Int) (l : List Int) (k : Nat) : Prop where
  inr : ∀ j, (hj : j < l.length) → j < k → 0 ≤ l[j] ∧ l[j] < c
  one : ∀ k', (hk' : k' < l.length) → k' < k → ∀ j, (hj : j < k') → l[j] ≠ l[k']
  up : kind = 2 → ∀ i, (hi : i + 1 < l.length) → i + 1 < k → l[i] ≤ l[i + 1]
theorem GoodTo.zero (kind c : Int) (l : List Int) : GoodTo kind c l 0 := ⟨fun _ _ h => by omega, fun _ _ h => by omega, fun _ _ _ h => by omega⟩
theorem GoodTo.succ {kind c : Int} {l : List Int} {k : Nat} (h : GoodTo kind c l k) (hk : k < l.length) (h1 : 0 ≤ l[k] ∧ l[k] < c) (h2 : (l.take k).any (fun m => decide (m = l[k])) = false)
    (h3 : kind = 2 → ∀ i, (hi : i + 1 = k) → l[i] ≤ l[k]) : GoodTo kind c l (k + 1) := by
  refine ⟨fun j hj hjk => ?_, fun k' hk' hlt j hj => ?_, fun hkd i hi hlt => ?_⟩
  · by_cases e : j = k
    · subst e; exact h1
    · exact h.inr j hj (by omega)
  · by_cases e : k' = k
    · subst e
      intro he
      have := List.any_eq_false.1 h2 l[j] (List.mem_take_iff_getElem.2 ⟨j, by omega, rfl⟩)
      simp [he] at this
    · exact h.one k' hk' (by omega) j hj
  · by_cases e : i + 1 = k
    · subst e; exact h3 hkd i rfl
    · exact h.up hkd i hi (by omega)
end Go.Proofs.YtopdfijojjbjdaaGreat

/- The contract of the reference's record Check. -/
namespace Go.Proofs.YtopdfijojjbjdaaGreat
open Go Go.RowKit Go.Shelf

theorem all_range_succ (p : Nat → Bool) (k : Nat) : (List.range (k + 1)).all p = ((List.range k).all p && p k) := by
  rw [List.range_succ, List.all_append]; simp

end Go.Proofs.YtopdfijojjbjdaaGreat

/- The contract of the reference's Put: one theorem for each way it goes. Printed by wip/tools/putr.py. -/
namespace Go.Proofs.YtopdfijojjbjdaaGreat
open Go Go.RowKit

theorem Own.one {α : Type} {base : Nat} {e : TypeId} {n : Nat} {dec : World → List Value → α → Prop} {w : World} {g : Nat} {cs : List Value} {x : α} (hg : w.heap[g]? = some (.cells cs.toArray e (0, 0))) (hb : base ≤ g) (hl : cs.length = n) (h : dec w cs x) :
    Own base e n dec w (.slice (some ⟨g, 0, none⟩) 1 1) [x] :=
  ⟨cs, ⟨by simp [hl], .inr ⟨g, 1, cs.toArray, rfl, hb, hg, Nat.le_refl _, by simp [maxLen], by simp [hl], by simp [← hl]⟩⟩, Dec.single hl h⟩
end Go.Proofs.YtopdfijojjbjdaaGreat

/- The contracts of record.Sizes and of the reference's Sizes. -/
namespace Go.Proofs.YtopdfijojjbjdaaGreat
open Go Go.RowKit Go.Shelf

theorem twin_reads {base : Nat} {w : World} {v : Value} {ys : List Sp} {l : List Btc} (h : Twinned base w v ys) (hy : ys.map (·.x) = l) (hsm : Small l) : WBtcs (Span base w.heap.size) w v l := by
  have := Twinned.wsl h (by have := congrArg List.length hy; have := hsm.1; simp at *; omega)
  rwa [hy] at this
theorem wf_i64 {x : Int} (h : (Lit.int .i64 x).wf = true) : -9223372036854775808 ≤ x ∧ x ≤ 9223372036854775807 := by
  simp [Lit.wf, IntKind.min, IntKind.max, IntKind.bits, IntKind.signed] at h
  omega
theorem wf_len {n : Nat} (h : n ≤ 140737488355328) : (Lit.int .i64 (n : Int)).wf = true := by
  simp [Lit.wf, IntKind.min, IntKind.max, IntKind.bits, IntKind.signed]
  omega

end Go.Proofs.YtopdfijojjbjdaaGreat

/- Fields in bytes: what taking one gives; the contracts of octet.Take and TakeField, and of the reference's Number, Twin and TakeField. -/
namespace Go.Proofs.YtopdfijojjbjdaaGreat
open Go Go.RowKit Go.Shelf

def RBytes (S : Nat → Prop) (w : World) (v : Value) (xs : List Int) : Prop := RSl S 1 (dInt .u8) w v xs
theorem RBytes.same {S : Nat → Prop} {w w' : World} {v : Value} {xs : List Int} (hs : Same S w w') (h : RBytes S w v xs) : RBytes S w' v xs := RSl.same (dInt.stable S _) hs h
/-- The number at a place: two bytes, the greater first. -/
def numAt (b : List Int) (at_ : Nat) : Int := b.getD at_ 0 * 256 + b.getD (at_ + 1) 0
/-- A field taken: its bytes, and where the next one begins. -/
def takeG (xs : List Int) (p : Nat) : Option (List Int × Nat) :=
  if xs.length < p + 2 then none else if xs.length < p + 2 + (numAt xs p).toNat then none else some ((xs.drop (p + 2)).take (numAt xs p).toNat, p + 2 + (numAt xs p).toNat)
/-- A part of a slice. -/
theorem RSl.sub {α : Type} {S : Nat → Prop} {dec : World → List Value → α → Prop} {w : World} {b off n cap : Nat} {xs : List α} (h : RSl S 1 dec w (.slice (some ⟨b, off, none⟩) n cap) xs) {p q : Nat} (hpq : p ≤ q) (hq : q ≤ xs.length) {cap' : Nat} (hc : q - p ≤ cap') :
    RSl S 1 dec w (.slice (some ⟨b, off + p, none⟩) (q - p) cap') ((xs.drop p).take (q - p)) := by
  obtain ⟨a, cp, cells, hv, h1, h2, h3, h4⟩ := h
  simp only [Value.slice.injEq] at hv
  obtain ⟨rfl, -, rfl⟩ := hv
  have hl : ((xs.drop p).take (q - p)).length = q - p := by rw [List.length_take, List.length_drop]; omega
  have hcl : cells.length = xs.length := by have := h3.1; omega
  refine ⟨_, cap', (cells.drop p).take (q - p), by rw [hl], by rw [hl]; exact hc, by rw [hl]; omega, ⟨by rw [hl, List.length_take, List.length_drop]; omega, fun i hi => ?_⟩, ?_⟩
  · rw [hl] at hi
    have := h3.2 (p + i) (by omega)
    rw [Nat.mul_one] at this ⊢
    rw [List.getElem_take, List.getElem_drop, List.drop_take, List.drop_drop, List.take_take, Nat.min_eq_left (by omega)]
    exact this
  · rcases h4 with h4 | ⟨b', off', ha, hS, hc'⟩
    · left; rw [h4]; simp
    · simp only [Option.some.injEq, Addr.mk.injEq, and_true] at ha
      obtain ⟨rfl, rfl⟩ := ha
      refine .inr ⟨b, off + p, rfl, hS, fun j u hu => ?_⟩
      rw [List.getElem?_take] at hu
      split at hu
      · rw [List.getElem?_drop] at hu
        have := hc' (p + j) u hu
        rwa [← Nat.add_assoc] at this
      · cases hu
end Go.Proofs.YtopdfijojjbjdaaGreat
