/- The contract of the reference's Twin. -/
import Derived.Test.YtkjgddcjhikdgaaSep
import Derived.Test.YtkjgddcjhikdgaaCopy2
import Derived.Deep.RegionLaw
namespace Go.Proofs.Ytkjgddcjhikdgaa
open Go Go.RowKit

/-- Batches of everyday size. -/
def Small (l : List Btc) : Prop := l.length ≤ 1000000 ∧ ∀ b ∈ l, b.blts.length ≤ 1000000 ∧ ∀ x ∈ b.blts, x.marks.length ≤ 1000000
theorem copyRef2 (S : Nat → Prop) (v : Value) (x : Blt) (w : World) (h : VBlt S w v x) (hl : x.marks.length ≤ 1000000000) :
    Calls Try.prog 21 #[v] w fun e w' => ∃ d, e = .returned (.agg #[.int .u8 x.kind, d]) ∧ wBlt (Span w.heap.size w'.heap.size) w' [.int .u8 x.kind, d] x ∧ Below w.heap.size w w' :=
  (copyRef S v x w h hl).mono fun e w' ⟨v', he, ⟨c, d, hv, hd⟩, hb⟩ => by
    have hd' := hd
    obtain ⟨a, cap, rfl, rfl, _⟩ := hd.toD.open
    exact ⟨_, by rw [he, hv], (hd'.cut).mono (fun b hb => ⟨hb.1, hb.2⟩), hb⟩

set_option maxHeartbeats 2000000 in
set_option maxRecDepth 100000 in
theorem twinRef (S : Nat → Prop) (v : Value) (l : List Btc) (w : World) (h : RBtcs S w v l) (hsm : Small l) :
    Calls Try.prog 20 #[v] w (fun e w' => ∃ v ys, e = .returned v ∧ Twinned w.heap.size w' v ys ∧ ys.map (·.x) = l ∧ Below w.heap.size w w') := by
  obtain ⟨hs1, hs2⟩ := hsm
  have HS2 := Lib.hid hs2; clear hs2
  obtain ⟨a, cap, rfl, h1, h2⟩ := RSl.shape h
  go_enter Try.func20, Try.ntmps20
  go_wp2
  go_loopw [3, 4] (fun ov i wr => ∃ (k : Nat) (ys : List Sp), k ≤ l.length ∧ i = .int .i64 k ∧ Twinned w.heap.size wr ov ys ∧ ys.map (·.x) = l.take k ∧ Below w.heap.size w wr) (fun _ i _ => l.length - (intOf i).toNat)
  case atStart => exact ⟨0, [], Nat.zero_le _, rfl, Twinned.nil _ _, rfl, Below.refl _ _⟩
  case round =>
    obtain ⟨k, ys, hk, rfl, htw, hys, hb⟩ := hrel
    by_cases hlt : k < l.length
    · obtain ⟨b, off, c0, d0, rfl, hS, hbw, hc, hd, hx⟩ := RSl.at2 (h.same (.of_below hb)) k hlt
      obtain ⟨a', cap', rfl, rfl, hl1, hl2, hI⟩ := hx.open
      obtain ⟨hsb, hsm⟩ := HS2.out l[k] (List.getElem_mem hlt)
      have HSM := Lib.hid hsm; clear hsm
      go_wp2
      obtain ⟨w1, rfl⟩ : ∃ w1, w1 = wr := ⟨_, rfl⟩
      go_loopw [6] (fun i wr => ∃ (j : Nat) (bv : Value), j ≤ l[k].blts.length ∧ i = .int .i64 j ∧ wr.heap[w1.heap.size]? = some (.cells #[.string l[k].name, bv] 64 (0, 0)) ∧ OwnX (w1.heap.size + 1) 25 2 wBlt wr bv (l[k].blts.take j) ∧ Below w1.heap.size w1 wr ∧ w1.heap.size < wr.heap.size) (fun i _ => l[k].blts.length - (intOf i).toNat)
      case atStart => exact ⟨0, .slice none 0 0, Nat.zero_le _, rfl, box_new _ _, OwnX.nil _ _ _ _ _, (Below.refl _ _).alloc (Nat.le_refl _) _, by simp⟩
      case round =>
        obtain ⟨j, bv, hj, rfl, hbx, hin, hbj, hz⟩ := hrel
        have hc' := (Same.of_below (S := Any) hbj).cell trivial hc
        have hd' := (Same.of_below (S := Any) hbj).cell trivial hd
        obtain ⟨abv, nbv, cbv, rfl⟩ : ∃ abv nbv cbv, bv = .slice abv nbv cbv := (by obtain ⟨x1, x2, x3⟩ := hin.shape; exact ⟨x1, _, x2, x3⟩)
        obtain ⟨-, hbc, hbf⟩ := own_box (Below.refl wr.heap.size wr) (size_of_box hbx) hbx
        by_cases hjl : j < l[k].blts.length
        · obtain ⟨b2, off2, c2, d2, rfl, hS2, hbw2, hc2, hd2, hx2⟩ := RSl.at2 hI j hjl
          have hml := HSM.out l[k].blts[j] (List.getElem_mem hjl)
          have hx2' := hx2
          obtain ⟨a3, cap3, rfl, rfl, hl3, -, -, -⟩ := hx2'.open
          have hVB : ∀ W', Below wr.heap.size wr W' → VBlt S W' (.agg #[.int .u8 l[k].blts[j].kind, .slice a3 l[k].blts[j].marks.length cap3]) l[k].blts[j] := fun W' hW => ⟨_, _, rfl, dBlt.stable S _ _ _ _ (.of_below (hbj.trans (hW.mono hbj.size))) hx2⟩
          have HVB := Lib.hid hVB; clear hVB hx2'
          have hc2' := (Same.of_below (S := Any) hbj).cell trivial hc2
          have hd2' := (Same.of_below (S := Any) hbj).cell trivial hd2
          have e1 : wr.cell? ⟨w1.heap.size, 1, none⟩ = some (.slice abv nbv cbv) := hbc 1
          have hinlt := hin.lt
          have hnew : ∀ (w2 : World) (d3 : Value), wBlt (Span wr.drew.heap.size w2.heap.size) w2 [.int .u8 l[k].blts[j].kind, d3] l[k].blts[j] → Below wr.drew.heap.size wr.drew w2 →
              wBlt (Rg (w1.heap.size + 1) (w2.alloc (.cells #[.int .u8 l[k].blts[j].kind, d3] 25)) (.slice abv nbv cbv)) (w2.alloc (.cells #[.int .u8 l[k].blts[j].kind, d3] 25)) [.int .u8 l[k].blts[j].kind, d3] l[k].blts[j] := by
            intro w2 d3 hv2 hb2
            refine (wBlt.stable _ _ _ _ _ (.of_below ((Below.refl _ _).alloc (Nat.le_refl _) _)) hv2).mono (fun x hx => ⟨?_, ?_, ?_⟩)
            · have := hx.1; simp at this; omega
            · have := hx.2; simp; omega
            · intro he
              have := (hinlt x he.symm).2
              have := hx.1; simp at this; omega
          have hK3 : ∀ (w2 : World) (d3 : Value) (w3 : World), Below wr.drew.heap.size wr.drew w2 → (w2.alloc (.cells #[.int .u8 l[k].blts[j].kind, d3] 25)).grownBy w3 (Value.slice abv nbv cbv).ownBlock →
              w3.cell? ⟨w1.heap.size, 1, none⟩ = some (.slice abv nbv cbv) ∧ w3.frozen? ⟨w1.heap.size, 1, none⟩ = false := by
            intro w2 d3 w3 hb2 hgr
            have hbx3 : w3.heap[w1.heap.size]? = some (.cells #[.string l[k].name, .slice abv nbv cbv] 64 (0, 0)) := by
              rw [hgr.block _ (by have := hb2.size; simp at this ⊢; omega) (fun he => by have := (hinlt _ he.symm).1; omega)]
              exact box_old _ ((own_box hb2 (by simpa using hz) hbx).1)
            exact ⟨by simp [World.cell?, hbx3], by simp [World.frozen?, hbx3]⟩
          have hSt : ∀ (w2 : World) (d3 : Value) (w3 : World) (a' : Option Addr) (n' c' : Nat), Below wr.drew.heap.size wr.drew w2 → (w2.alloc (.cells #[.int .u8 l[k].blts[j].kind, d3] 25)).grownBy w3 (Value.slice abv nbv cbv).ownBlock →
              OwnX (w1.heap.size + 1) 25 2 wBlt w3 (.slice a' n' c') (l[k].blts.take j ++ [l[k].blts[j]]) →
              (w3.setCell ⟨w1.heap.size, 1, none⟩ (.slice a' n' c')).heap[w1.heap.size]? = some (.cells #[.string l[k].name, .slice a' n' c'] 64 (0, 0)) ∧
              OwnX (w1.heap.size + 1) 25 2 wBlt (w3.setCell ⟨w1.heap.size, 1, none⟩ (.slice a' n' c')) (.slice a' n' c') (l[k].blts.take (j + 1)) ∧
              Below w1.heap.size w1 (w3.setCell ⟨w1.heap.size, 1, none⟩ (.slice a' n' c')) ∧ w1.heap.size < (w3.setCell ⟨w1.heap.size, 1, none⟩ (.slice a' n' c')).heap.size := by
            intro w2 d3 w3 a' n' c' hb2 hgr hO
            have hbx3 : w3.heap[w1.heap.size]? = some (.cells #[.string l[k].name, .slice abv nbv cbv] 64 (0, 0)) := by
              rw [hgr.block _ (by have := hb2.size; simp at this ⊢; omega) (fun he => by have := (hinlt _ he.symm).1; omega)]
              exact box_old _ ((own_box hb2 (by simpa using hz) hbx).1)
            have hz2 := hb2.size
            simp only [World.size_drew] at hz2
            have hb3 : Below w1.heap.size w1 w3 := ((hbj.drew.trans (hb2.mono (by simpa using hbj.size))).alloc (by omega) _).grown hgr (by simp; omega) (fun g hg => by have := (hinlt g hg).1; omega)
            refine ⟨by rw [heap_setCell_at hbx3]; rfl, ?_, hb3.setCell (p := ⟨w1.heap.size, 1, none⟩) (Nat.le_refl _) _, by rw [size_setCell']; exact size_of_box hbx3⟩
            rw [List.take_succ_eq_append_getElem hjl]
            exact hO.setCell famBltW (by simp) _
          have HSt := Lib.hid hSt; clear hSt
          have HK3 := Lib.hid hK3; clear hK3
          have Hnew := Lib.hid hnew; have Hinlt := Lib.hid hinlt; clear hnew hinlt
          go_wp2
          clear hbc hbf hc hd
          clear hc2 hd2
          go_region_law (first | (refine step_appX _ Try.infoBlt rfl rfl Try.underlying62 ⟨rfl, by omega, by omega⟩ famBltW (w1.heap.size + 1) (hin.below famBltW ((Below.drew (Below.refl _ _) |>.trans hb2).alloc hb2.size _)) rfl (g := w2.heap.size) (cs := [.int .u8 l[k].blts[j].kind, d3]) (y := l[k].blts[j]) (box_new w2 (.cells #[.int .u8 l[k].blts[j].kind, d3] 25)) rfl (Hnew.out w2 d3 hv2 hb2) rfl (by simp; omega) (by simp; have := hb2.size; simp at this; omega) ?_; intro a' n' c' w3 hgr hO; have k3 := HK3.out w2 d3 w3 hb2 hgr; obtain ⟨k31, k32⟩ := k3) | (go_simp; go_at_call 21; refine (copyRef2 S _ l[k].blts[j] _ (HVB.out _ (Below.drew (Below.refl _ _))) (by omega)).mono ?_; rintro e w2 ⟨d3, rfl, hv2, hb2⟩; have k2 := (Same.of_below (S := Any) hb2).cell trivial e1; have hz2 : w1.heap.size < w2.heap.size := (by have := hb2.size; simp at this; omega)))
          all_goals
            go_wp2
            obtain ⟨q1, q2, q3, q4⟩ := HSt.out w2 d3 w3 a' n' c' hb2 hgr hO
            exact ⟨⟨j + 1, _, by omega, by go_num, q1, q2, q3, q4⟩, by simp [intOf]; omega⟩
        · have hj' : l[k].blts.take j = l[k].blts := List.take_of_length_le (by omega)
          rw [hj'] at hin
          have htw' := htw.below hbj
          have hlen : ys.length = k := by have := congrArg List.length hys; simp at this; omega
          obtain ⟨aov, cov, hov⟩ := htw.1.shape
          obtain ⟨nov, hnov⟩ : ∃ n, n = ys.length := ⟨_, rfl⟩
          rw [← hnov] at hov
          subst hov
          have hovlt : ∀ g, (Value.slice aov nov cov).ownBlock = some g → w.heap.size ≤ g ∧ g < w1.heap.size := htw.1.lt
          have hsz1 := hb.size
          have hbr : Below wr.heap.size wr (wr.alloc (.cells #[.string l[k].name, .slice abv nbv cbv] 64)) := (Below.refl _ _).alloc (Nat.le_refl _) _
          have hnewB : dSep (Rg w.heap.size (wr.alloc (.cells #[.string l[k].name, .slice abv nbv cbv] 64)) (.slice aov nov cov)) (wr.alloc (.cells #[.string l[k].name, .slice abv nbv cbv] 64)) [.string l[k].name, .slice abv nbv cbv] ⟨l[k], w1.heap.size + 1, wr.heap.size⟩ :=
            famSep.stable _ _ _ _ _ (.of_below hbr) (dSep.built (fun b k1 k2 => ⟨by omega, by simp; omega, fun he => by have := (hovlt b he.symm).2; omega⟩) hl2 hl1 hin)
          have htw2 := htw'.below hbr
          clear hc hd hbf hc'
          have e0 : wr.cell? ⟨w1.heap.size, 0, none⟩ = some (.string l[k].name) := hbc 0
          have e1 : wr.cell? ⟨w1.heap.size, 1, none⟩ = some (.slice abv nbv cbv) := hbc 1
          clear hbc
          have Hys := Lib.hid hys; clear hys
          have Hovlt := Lib.hid hovlt; clear hovlt
          go_wp2_with (at_builtin; go_must (refine wpList_appX _ Try.infoBtc rfl rfl Try.underlying22 ⟨rfl, by omega, by omega⟩ famSep w.heap.size htw2.1 rfl (g := wr.heap.size) (cs := [.string l[k].name, .slice abv nbv cbv]) (y := ⟨l[k], w1.heap.size + 1, wr.heap.size⟩) (box_new _ _) rfl hnewB rfl (by omega) (by simp; have := hbj.size; omega) ?_); go_must (intro a' n' c' w3 hgr hO))
          refine ⟨⟨k + 1, ys ++ [⟨l[k], w1.heap.size + 1, wr.heap.size⟩], by omega, by go_num, Twinned.push htw.2.1 (fun z hz => ?_) ⟨by simp; omega, by simp; omega, ?_⟩ hO, ?_, ?_⟩, by simp [intOf]; omega⟩
          · have := htw.2.2 z hz
            simp; omega
          · have := hgr.size; simp at this ⊢; omega
          · rw [List.map_append, Hys.out, List.take_succ_eq_append_getElem hlt]; rfl
          · exact ((hb.trans (hbj.mono hsz1)).alloc (by have := hbj.size; omega) _).grown hgr (by simp; have := hbj.size; omega) (fun g hg => (Hovlt.out g hg).1)
    · have hk' : l.take k = l := List.take_of_length_le (by omega)
      rw [hk'] at hys
      go_wp2
      go_ret
      exact ⟨_, ys, rfl, htw, hys, hb⟩
end Go.Proofs.Ytkjgddcjhikdgaa
