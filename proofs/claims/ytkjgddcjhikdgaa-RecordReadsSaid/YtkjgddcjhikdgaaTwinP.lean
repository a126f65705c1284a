/- The contract of record.Twin. -/
import Derived.Test.YtkjgddcjhikdgaaMix
import Derived.Test.YtkjgddcjhikdgaaTwinR
namespace Go.Proofs.Ytkjgddcjhikdgaa
open Go Go.RowKit

theorem copied2 (S : Nat → Prop) (v : Value) (x : Blt) (w : World) (h : VBlt S w v x) (hl : x.marks.length ≤ 1000000000) :
    Calls Try.prog 73 #[v] w fun e w' => ∃ d, e = .returned (.agg #[.int .u8 x.kind, d]) ∧ wBlt (Span w.heap.size w'.heap.size) w' [.int .u8 x.kind, d] x ∧ Below w.heap.size w w' :=
  (copied S v x w h hl).mono fun e w' ⟨v', he, ⟨c, d, hv, hd⟩, hb⟩ => by
    have hd' := hd
    obtain ⟨a, cap, rfl, rfl, _⟩ := hd.toD.open
    exact ⟨_, by rw [he, hv], (hd'.cut).mono (fun b hb => ⟨hb.1, hb.2⟩), hb⟩

set_option maxHeartbeats 2000000 in
set_option maxRecDepth 100000 in
theorem twin (S : Nat → Prop) (v : Value) (l : List Btc) (w : World) (h : RBtcs S w v l) (hsm : Small l) :
    Calls Try.prog 38 #[v] w (fun e w' => ∃ v ys, e = .returned v ∧ Twinned w.heap.size w' v ys ∧ ys.map (·.x) = l ∧ Below w.heap.size w w') := by
  obtain ⟨hs1, hs2⟩ := hsm
  have HS2 := Lib.hid hs2; clear hs2
  obtain ⟨a, cap, hv, h1, h2⟩ := RSl.shape h
  have HC := Lib.hid (cloneBtcs S v l w h (by omega))
  have hSlt : ∀ b, Cut S w.heap.size b → b < w.heap.size := fun b hb => hb.2
  have HSlt := Lib.hid hSlt; clear hSlt
  subst hv
  go_enter Try.func38, Try.ntmps38
  go_wp2_with (go_at_call 80; refine HC.out.mono ?_; rintro e w1 ⟨v1, rfl, ho1, hb1⟩; obtain ⟨a1, c1, rfl⟩ := ho1.shape)
  have hsz1 := hb1.size
  go_loopw [10] (fun i wr => ∃ (k : Nat) (zs : List (Sp × Bool)), k ≤ l.length ∧ i = .int .i64 k ∧ MixOut (Cut S w.heap.size) w.heap.size wr (.slice a1 l.length c1) l k zs ∧ Below w.heap.size w wr) (fun i _ => l.length - (intOf i).toNat)
  case atStart => exact ⟨0, _, Nat.zero_le _, rfl, MixOut.start ho1, hb1⟩
  case round =>
    obtain ⟨k, zs, hk, rfl, hmo, hb⟩ := hrel
    have hszr := hb.size
    by_cases hlt : k < l.length
    · have hzl : zs.length = l.length := by rw [← hmo.2.1]; simp
      have hkz : k < zs.length := by omega
      obtain ⟨g, c0, d0, rfl, hg1, hg2, hc, hd, hf, hx⟩ := Own.at2 hmo.1 hkz
      have hxk : zs[k].1.x = l[k] := by
        have := congrArg (fun q => q[k]?) hmo.2.1
        simpa [hkz, hlt] using this
      have htag : zs[k].2 = false := by rw [hmo.2.2.1 k hkz]; simp
      simp only [mixC, htag, Bool.false_eq_true, if_false, hxk] at hx
      obtain ⟨a', cap', rfl, rfl, hl1, hl2, hI⟩ := hx.open
      obtain ⟨hsb, hsm⟩ := HS2.out l[k] (List.getElem_mem hlt)
      have HSM := Lib.hid hsm; clear hsm
      have HCB := Lib.hid (cloneBlts (Cut S w.heap.size) _ l[k].blts wr hI (by omega))
      have hf1 := hf (k * 2 + 1)
      have HF := Lib.hid hf; clear hf
      have HMO := Lib.hid hmo; clear hmo
      go_wp2_with (go_at_call 81; refine HCB.out.mono ?_; rintro e w2 ⟨v2, rfl, ho2, hb2⟩; obtain ⟨a2, c2, rfl⟩ := ho2.shape; have hcw := (Same.of_below (S := Any) hb2).cell trivial hd; have hfw := (hb2.frozen (p := ⟨g, k * 2 + 1, none⟩) hg2).trans hf1)
      obtain ⟨wo, rfl⟩ : ∃ wo, wo = wr := ⟨_, rfl⟩
      have hgB : g < w2.heap.size := by have := hb2.size; omega
      have hoc : (w2.setCell ⟨g, k * 2 + 1, none⟩ (.slice a2 l[k].blts.length c2)).cell? ⟨g, k * 2 + 1, none⟩ = some (.slice a2 l[k].blts.length c2) := World.cell?_setCell_same _ _ _ hcw
      have hz3 : (w2.setCell ⟨g, k * 2 + 1, none⟩ (.slice a2 l[k].blts.length c2)).heap.size = w2.heap.size := size_setCell' _ _ _
      have hv2lt : ∀ b, (Value.slice a2 l[k].blts.length c2).ownBlock = some b → wo.heap.size ≤ b ∧ b < w2.heap.size := ho2.lt
      have Hv2lt := Lib.hid hv2lt; clear hv2lt
      have hsz2 := hb2.size
      go_loopw [29] (fun i wr => ∃ (j : Nat) (zs2 : List (Blt × Bool)), j ≤ l[k].blts.length ∧ i = .int .i64 j ∧ MixIn (Cut S w.heap.size) wo.heap.size wr (.slice a2 l[k].blts.length c2) l[k].blts j zs2 ∧
        (w2.setCell ⟨g, k * 2 + 1, none⟩ (.slice a2 l[k].blts.length c2)).grownBy wr (Value.slice a2 l[k].blts.length c2).ownBlock) (fun i _ => l[k].blts.length - (intOf i).toNat)
      case atStart => exact ⟨0, _, Nat.zero_le _, rfl, MixIn.start (Own.dmono (fun _ _ h => h.mono fun _ => Cut.sub) (Own.setCell (dBlt.stable (Cut (Cut S w.heap.size) wo.heap.size)) ho2 (p := ⟨g, k * 2 + 1, none⟩) hg2 (fun hh => by have := hh.1.2; simp at this; omega) _)), gb_refl _ _⟩
      case round =>
        obtain ⟨j, zs2, hj, rfl, hmi, hgr⟩ := hrel
        have hocr : wr.cell? ⟨g, k * 2 + 1, none⟩ = some (.slice a2 l[k].blts.length c2) := hgr.cell hoc (fun he => by have := (Hv2lt.out g he.symm).1; omega)
        have hzr := hgr.size
        rw [hz3] at hzr
        have HC0 := Lib.hid hc
        clear hc hd hcw hfw
        by_cases hjl : j < l[k].blts.length
        · have hzl2 : zs2.length = l[k].blts.length := by rw [← hmi.2.1]; simp
          have hjz : j < zs2.length := by omega
          obtain ⟨g2, c3, d3, rfl, hg21, hg22, hc2, hd2, hf2, hx2⟩ := Own.at2 hmi.1 hjz
          have hxj : zs2[j].1 = l[k].blts[j] := by
            have := congrArg (fun q => q[j]?) hmi.2.1
            simpa [hjz, hjl] using this
          have htag2 : zs2[j].2 = false := by rw [hmi.2.2 j hjz]; simp
          simp only [mixB, htag2, Bool.false_eq_true, if_false, hxj] at hx2
          have hml := HSM.out l[k].blts[j] (List.getElem_mem hjl)
          have hx2' := hx2
          obtain ⟨a3, cap3, rfl, rfl, hl3, -, -, -⟩ := hx2'.open
          have hVB : ∀ W', Below wr.heap.size wr W' → VBlt (Cut S w.heap.size) W' (.agg #[.int .u8 l[k].blts[j].kind, .slice a3 l[k].blts[j].marks.length cap3]) l[k].blts[j] := fun W' hW => ⟨_, _, rfl, dBlt.stable _ _ _ _ _ (.of_below hW) hx2⟩
          have HVB := Lib.hid hVB; clear hVB hx2'
          have Hf2 := Lib.hid hf2; clear hf2
          have Hmi := Lib.hid hmi; clear hmi
          have Hgr := Lib.hid hgr; clear hgr
          go_wp2
          go_region_law (go_simp; go_at_call 73; refine (copied2 _ _ l[k].blts[j] _ (HVB.out _ (Below.drew (Below.refl _ _))) (by omega)).mono ?_; rintro e w4 ⟨d4, rfl, hv4, hb4⟩; obtain ⟨a4, c4, -, rfl, -⟩ := hv4.toD.open; have k1 := (Same.of_below (S := Any) hb4).cell trivial hocr; have k2 := (Same.of_below (S := Any) hb4).cell trivial hc2; have k3 := (Same.of_below (S := Any) hb4).cell trivial hd2; have k4 := (hb4.frozen (p := ⟨g2, j * 2, none⟩) hg22).trans (Hf2.out _); have k5 := (hb4.frozen (p := ⟨g2, j * 2 + 1, none⟩) hg22).trans (Hf2.out _))
          all_goals
            go_wp2
            have hb5 : Below wr.heap.size wr w4 := (Below.drew (Below.refl _ _)).trans hb4
            exact ⟨⟨j + 1, _, by omega, by go_num, Hmi.out.step hjz (fun b hh => by have := HSlt.out b hh; omega) (by omega) hb5 (by rw [hxj]; exact hv4), gb_trans Hgr.out (gb_trans (gb_below hb5 _) (gb_trans (gb_setCell w4 g2 _ _) (gb_setCell _ g2 _ _)))⟩, by simp [intOf]; omega⟩
        · have hjk : j = l[k].blts.length := by omega
          subst hjk
          have Hmi := Lib.hid hmi; clear hmi
          have Hgr := Lib.hid hgr; clear hgr
          go_wp2
          exact ⟨⟨k + 1, _, by omega, by go_num, HMO.out.step hkz HSlt.out hszr hb2 Hgr.out (by rw [hxk]; exact HC0.out) (by rw [hxk]; exact hl2) (by rw [hxk]; exact hl1) (fun b hb => (Hv2lt.out b hb).1) (by rw [hxk]; exact Hmi.out.done), ((hb.trans (hb2.mono hszr)).setCell (p := ⟨g, k * 2 + 1, none⟩) hg1 _).grown Hgr.out (by rw [hz3]; omega) (fun b hb => by have := (Hv2lt.out b hb).1; omega)⟩, by simp [intOf]; omega⟩
    · have hk' : k = l.length := by omega
      subst hk'
      have HMO := Lib.hid hmo; clear hmo
      go_wp2
      go_ret
      exact ⟨_, _, rfl, HMO.out.done.1, HMO.out.done.2, hb⟩
end Go.Proofs.Ytkjgddcjhikdgaa
