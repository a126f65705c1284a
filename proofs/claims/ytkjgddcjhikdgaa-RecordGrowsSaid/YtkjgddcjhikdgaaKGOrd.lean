/- Texts of one claim, put together: LawOrder. -/
import Derived.Test.YtkjgddcjhikdgaaKGLive
import Derived.Test.YtkjgddcjhikdgaaKGTell

/- The walk of the law RecordOrder. -/
namespace Go.Proofs.Ytkjgddcjhikdgaa
open Go Go.RowKit Go.Shelf

theorem backL_cons (b : Btc) (l : List Btc) : backL (b :: l) = backL l ++ [backB b] := by simp [backL]
theorem backL_drop {l : List Btc} {p : Nat} (hp : p < l.length) : backL (l.drop p) = backL (l.drop (p + 1)) ++ [backB l[p]] := by
  rw [List.drop_eq_getElem_cons hp, backL_cons]
theorem rev_drop {α : Type} {l : List α} {q : Nat} (hq : q < l.length) : (l.drop q).reverse = (l.drop (q + 1)).reverse ++ [l[q]] := by
  rw [List.drop_eq_getElem_cons hq, List.reverse_cons]
theorem great_len {l : List Btc} (h : great l = false) : l.length ≤ 20 ∧ ∀ b ∈ l, b.blts.length ≤ 1000000 := by
  have hs := small_of h
  refine ⟨?_, fun b hb => (hs.2 b hb).1⟩
  by_cases h20 : 20 < l.length
  · rw [great] at h; simp [h20] at h
  · omega
set_option maxHeartbeats 4000000 in
set_option maxRecDepth 100000 in
theorem order_great (v : Value) (l : List Btc) (c kind : Int) (w : World) (h : RBtcs Any w v l) (hg : great l = true) :
    Calls Try.prog 11 #[v, .int .i64 c, .int .u8 kind] w fun e w' => e = .returned (.bool true) ∧ Below w.heap.size w w' := by
  have hG := fun W (hW : Below w.heap.size w W) => great26 Any v l W (h.same (.of_below hW))
  rw [hg] at hG
  obtain ⟨a, cap, rfl, -, -⟩ := RSl.shape h
  have HG := Lib.hid hG
  clear hG h hg
  go_enter Try.func11, Try.ntmps11
  go_wp2_with (first
    | (go_at_call 58; refine (alive26 _).mono ?_; rintro e w1 ⟨rfl, hb1⟩; have hz1 := hb1.size)
    | (go_at_call 18; refine (HG.out _ hb1).mono ?_; rintro e w2 ⟨rfl, hb2⟩; have hp2 := hb1.trans (hb2.mono hz1)))
  go_ret
  exact ⟨rfl, hp2⟩
set_option maxHeartbeats 8000000 in
set_option maxRecDepth 100000 in
theorem order_small (v : Value) (l : List Btc) (c kind : Int) (w : World) (h : RBtcs Any w v l) (hg : great l = false) :
    Calls Try.prog 11 #[v, .int .i64 c, .int .u8 kind] w fun e w' => e = .returned (.bool true) ∧ Below w.heap.size w w' := by
  have hG := fun W (hW : Below w.heap.size w W) => great26 Any v l W (h.same (.of_below hW))
  rw [hg] at hG
  obtain ⟨hl20, hlb⟩ := great_len hg
  obtain ⟨I, hI⟩ : ∃ I, tallyI l c kind = I := ⟨_, rfl⟩
  obtain ⟨⟨pc, pk, rows⟩, hV⟩ : ∃ p, tallyV l c kind = p := ⟨_, rfl⟩
  obtain ⟨n, hn⟩ : ∃ n, rows.length = n := ⟨_, rfl⟩
  have hT1 := fun W (hW : Below w.heap.size w W) => (recTally Any v l c kind W (h.same (.of_below hW))).mono fun _ _ => TalOpen.of hI hV hn
  have hT2 := fun W u (hu : RBtcs Any W u (backL l)) => (recTally Any u (backL l) c kind W hu).mono fun _ _ => TalOpen.of ((tally_back l c kind).1.trans hI) ((tally_back l c kind).2.trans hV) hn
  have hH := fun W (hW : Below w.heap.size w W) => h.same (.of_below hW)
  obtain ⟨a, cap, rfl, -, -⟩ := RSl.shape h
  have HG := Lib.hid hG; have HT1 := Lib.hid hT1; have HT2 := Lib.hid hT2; have HH := Lib.hid hH; have Hlb := Lib.hid hlb
  clear hG hT1 hT2 hH hg hI hV hn h hlb
  go_enter Try.func11, Try.ntmps11
  go_wp2_with (first
    | (go_at_call 58; refine (alive26 _).mono ?_; rintro e w1 ⟨rfl, hb1⟩; have hz1 := hb1.size)
    | (go_at_call 18; refine (HG.out _ hb1).mono ?_; rintro e w2 ⟨rfl, hb2⟩; have hp2 := hb1.trans (hb2.mono hz1)))
  have hz2 := hp2.size
  have hC2 : RBtcs (Cut Any w2.heap.size) w2 (.slice a l.length cap) l := (HH.out w2 hp2).cut
  have HC2 := Lib.hid hC2
  clear hC2 hb1 hb2 hz1
  go_loopw [8, 9] (fun s i wr => ∃ (k : Nat) (iz : Int) (ab : Option Addr) (mb cb : Nat), i = .int .i64 iz ∧ iz = (k : Int) - 1 ∧ k ≤ l.length ∧ s = .slice ab mb cb ∧ Hid (OwnZ w2.heap.size 64 2 dBtc wr (.slice ab mb cb) (backL (l.drop k))) ∧ w2.heap.size ≤ wr.heap.size ∧ Below w2.heap.size w2 wr) (fun _ i _ => (intOf i + 1).toNat)
  case atStart => exact ⟨l.length, _, none, 0, 0, rfl, rfl, Nat.le_refl _, rfl, Lib.hid (by rw [List.drop_length]; exact Own.nil _ _ _ _ _), Nat.le_refl _, Below.refl _ _⟩
  case round =>
    obtain ⟨k, iz, ab, mb, cb, rfl, hiz, hk, rfl, hown, hzr, hb⟩ := hrel
    rcases Nat.eq_zero_or_pos k with rfl | hkp
    · obtain rfl : iz = -1 := by omega
      have hrb : RBtcs Any wr (.slice ab mb cb) (backL (l.drop 0)) := OwnZ.rsl famBtc hown.out (by simp [backL]; omega)
      rw [List.drop_zero] at hrb
      have Hrb := Lib.hid hrb
      have hp3 := hp2.trans (hb.mono hz2)
      have hz3 := hp3.size
      clear hrb hown hiz hk
      go_wp2_with (first
        | (go_at_call 60; refine (profSameT Any Any _ _ _ _ (VProf.same (.of_below (by go_grown)) HP4.out) (VProf.same (.of_below (by go_grown)) HP5.out)).mono ?_; rintro e w6 ⟨rfl, hb6⟩; have hp6 := belT (B := w.heap.size) (w := w) (by go_grown) hb6 (by go_size))
        | (have := hp4; go_at_call 59; refine (HT2.out _ _ (Hrb.out.same (.of_below (by go_grown)))).mono ?_; rintro e w5 ⟨a5, c5, rfl, hv5, hb5⟩; have hp5 := belT (B := w.heap.size) (w := w) (by go_grown) hb5 (by go_size); have hz5 := hp5.size; obtain ⟨g4, k4, -⟩ := own_box hb5 (by simp) Hbx4.out; have k40 := k4 0; have k41 := k4 1; have k42 := k4 2; have hlt5 := size_of_box g4; have HP5 := Lib.hid hv5; replace HP4 := Lib.hid (VProf.same (.of_below (belT (by go_grown) hb5 (by go_size))) HP4.out); clear hv5 hb5 k4 g4 this)
        | (go_at_call 59; refine (HT1.out _ hp3).mono ?_; rintro e w4 ⟨a4, c4, rfl, hv4, hb4⟩; have hp4 := belT hp3 hb4 hz3; have hz4 := hp4.size; have HP4 := Lib.hid hv4; have Hbx4 := Lib.hid (box_new w4 (.cells #[.int .i64 pc, .int .u8 pk, .slice a4 n c4] 98)); replace Hrb := Lib.hid (Hrb.out.same (.of_below hb4)); clear hv4 hb4))
      go_ret
      exact ⟨rfl, hp6⟩
    · obtain ⟨p, rfl⟩ : ∃ p, k = p + 1 := ⟨k - 1, by omega⟩
      obtain rfl : iz = (p : Int) := by omega
      have hp : p < l.length := by omega
      obtain ⟨b, off, c1, d1, rfl, hS1, hbw, hcc, hdd, hx⟩ := RSl.at2 (RSl.same (dBtc.stable _) (fun b _ hs => hb.block b hs.2) HC2.out) p hp
      obtain ⟨a2, cap2, rfl, rfl, hl2, hnm, hI⟩ := hx.open
      have hbl := Hlb.out _ (List.getElem_mem hp)
      have hnew := below_new wr (.cells #[.string l[p].name, .slice none 0 0] 64)
      have hbx0 := box_new wr (.cells #[.string l[p].name, .slice none 0 0] 64)
      have HI := Lib.hid hI; have Hnew := Lib.hid hnew; have Hbx0 := Lib.hid hbx0
      have Hdd := Lib.hid hdd; have HS1 := Lib.hid hS1
      clear hx hI hnew hbx0 hiz hk hkp hS1
      go_wp2
      obtain ⟨wo, hwo⟩ : ∃ wo, wo = wr.alloc (.cells #[.string l[p].name, .slice none 0 0] 64) := ⟨_, rfl⟩
      rw [← hwo]
      rw [← hwo] at Hnew Hbx0
      have hzo : wo.heap.size = wr.heap.size + 1 := by rw [hwo]; simp
      have Hzo := Lib.hid hzo
      obtain ⟨wq, rfl⟩ : ∃ wq, wq = wr := ⟨_, rfl⟩
      clear hwo hcc hdd hzo
      go_loopw [11] (fun i wr => ∃ (j : Nat) (jz : Int) (av : Option Addr) (nv cv : Nat), i = .int .i64 jz ∧ jz = (j : Int) - 1 ∧ j ≤ l[p].blts.length ∧ wr.heap[wq.heap.size]? = some (.cells #[.string l[p].name, .slice av nv cv] 64 (0, 0)) ∧
        Hid (Own (wq.heap.size + 1) 25 2 (dBlt (Cut Any w2.heap.size)) wr (.slice av nv cv) (l[p].blts.drop j).reverse) ∧ wq.heap.size + 1 ≤ wr.heap.size ∧ Below wq.heap.size wq wr) (fun i _ => (intOf i + 1).toNat)
      case atStart => exact ⟨l[p].blts.length, _, none, 0, 0, rfl, rfl, Nat.le_refl _, Hbx0.out, Lib.hid (by rw [List.drop_length]; exact Own.nil _ _ _ _ _), by have := Hzo.out; omega, Hnew.out⟩
      case round =>
        obtain ⟨j, jz, av, nv, cv, rfl, hjz, hj, hbx, hin, hzi, hbi⟩ := hrel
        obtain ⟨-, hbc, hbf⟩ := own_box (Below.refl _ wr) (size_of_box hbx) hbx
        have e0 : wr.cell? ⟨wq.heap.size, 0, none⟩ = some (.string l[p].name) := hbc 0
        have e1 : wr.cell? ⟨wq.heap.size, 1, none⟩ = some (.slice av nv cv) := hbc 1
        have f1 := hbf 1
        have hlt1 := size_of_box hbx
        have hbw2 : Below w2.heap.size w2 wr := hb.trans (hbi.mono hzr)
        rcases Nat.eq_zero_or_pos j with rfl | hjp
        · obtain rfl : jz = -1 := by omega
          rw [List.drop_zero] at hin
          have hnw := below_new wr (.cells #[.string l[p].name, .slice av nv cv] 64)
          have hlB := fun g hgk => (Own.lt hown.out g hgk)
          have hOB := (OwnZ.below famBtc (OwnZ.below famBtc hown.out hbi) hnw)
          have hzb := hbi.size
          have hr0 : RSl (Cut (From (wq.heap.size + 1)) wr.heap.size) 2 (dBlt (Cut Any w2.heap.size)) wr (.slice av nv cv) l[p].blts.reverse := RSl.cut (by omega) (fun _ _ h => h) (Own.rsl hin.out (by simp; omega))
          have hr1 : RBlts (fun g => g < w2.heap.size ∨ (wq.heap.size + 1 ≤ g ∧ g < wr.heap.size)) wr (.slice av nv cv) l[p].blts.reverse := RSl.mono (fun _ _ _ hd => dBlt.mono (fun g hg => .inl hg.2) hd) (fun g hg => .inr ⟨hg.1, hg.2⟩) hr0
          have hrs := RBlts.same (.of_below hnw) hr1
          have hD : dBtc (Rz (wr.alloc (.cells #[.string l[p].name, .slice av nv cv] 64)) (.slice ab mb cb)) (wr.alloc (.cells #[.string l[p].name, .slice av nv cv] 64)) [.string l[p].name, .slice av nv cv] (backB l[p]) := by
            have hgg : ∀ g, (g < w2.heap.size ∨ (wq.heap.size + 1 ≤ g ∧ g < wr.heap.size)) → Rz (wr.alloc (.cells #[.string l[p].name, .slice av nv cv] 64)) (.slice ab mb cb) g := fun g hg => ⟨by simp; omega, fun he => by have := hlB g he.symm; omega⟩
            exact ⟨_, rfl, hnm, RSl.mono (fun _ _ _ hd => dBlt.mono hgg hd) hgg hrs⟩
          have hbd := backL_drop hp
          have hln : (backL (l.drop (p + 1))).length ≤ 1000000 := by simp [backL]; omega
          have HOB := Lib.hid hOB; have HD := Lib.hid hD; have Hbd := Lib.hid hbd; have HlB := Lib.hid hlB; have Hnw := Lib.hid hnw; have Hln := Lib.hid hln
          clear hOB hD hbd hlB hnw hrs hin hown hbx hbc hbf hjz hj hln
          go_wp2_with (at_builtin; go_must (refine wpList_appZ _ Try.infoBtc rfl rfl Try.underlying22 ⟨rfl, by omega, by omega⟩ famBtc w2.heap.size HOB.out rfl (g := wr.heap.size) (cs := [.string l[p].name, .slice av nv cv]) (y := backB l[p]) (box_new _ _) rfl HD.out rfl (by have := Hln.out; omega) (by simp; omega) ?_); intro a8 n8 c8 w3 hgr hO; have Hgr := Lib.hid hgr; have HO := Lib.hid hO; clear hgr hO)
          have e9 : Below w2.heap.size w2 wr := hb.trans (hbi.mono hzr)
          refine ⟨⟨p, (p : Int) - 1, a8, n8, c8, by go_num, rfl, by omega, rfl, Lib.hid (by rw [Hbd.out]; exact HO.out), ?_, ?_⟩, by simp [intOf] <;> omega⟩
          · have := Hgr.out.size; simp at this; omega
          · exact (e9.trans (Hnw.out.mono e9.size)).grown Hgr.out (by have := e9.size; simp; omega) (fun g hg => by have := (HlB.out g hg).1; omega)
        · obtain ⟨q, rfl⟩ : ∃ q, j = q + 1 := ⟨j - 1, by omega⟩
          obtain rfl : jz = (q : Int) := by omega
          have hq : q < l[p].blts.length := by omega
          have hd9 : wr.cell? ⟨b, off + p * 2 + 1, none⟩ = some (.slice a2 l[p].blts.length cap2) := (hbi.cell (by have := HS1.out.2; show b < wq.heap.size; omega)).trans Hdd.out
          have hbwr : b < wr.heap.size := by have := HS1.out.2; have := hbi.size; omega
          obtain ⟨b5, off5, c5, d5, rfl, hS5, hbw5, hc5, hd5, hy⟩ := RSl.at2 (RBlts.same (.of_below hbi) HI.out) q hq
          obtain ⟨a6, cap6, rfl, rfl, hl6, -, -, -⟩ := hy.open
          have hnw : Below wr.heap.size wr (wr.drew.alloc (.cells #[.int .u8 l[p].blts[q].kind, .slice a6 l[p].blts[q].marks.length cap6] 25)) := (Below.drew (Below.refl _ _)).alloc (Nat.le_refl _) _
          have hOw := Own.below (S := Cut Any w2.heap.size) (dBlt.stable _) hin.out hnw
          have hlo := fun g hgk => (Own.lt hin.out g hgk)
          have hu : RSl (From 0) 2 (dBlt (Cut Any w2.heap.size)) (wr.drew.alloc (.cells #[.int .u8 l[p].blts[q].kind, .slice a6 l[p].blts[q].marks.length cap6] 25)) (.slice (some ⟨wr.heap.size, 0, none⟩) 1 1) [l[p].blts[q]] :=
            RSl.built (cs := [.int .u8 l[p].blts[q].kind, .slice a6 l[p].blts[q].marks.length cap6]) (Nat.zero_le _) (box_new wr.drew _) rfl (dBlt.stable _ _ _ _ _ (.of_below hnw) hy)
          have hK3 : ∀ w3, (wr.drew.alloc (.cells #[.int .u8 l[p].blts[q].kind, .slice a6 l[p].blts[q].marks.length cap6] 25)).grownBy w3 (Value.slice av nv cv).ownBlock → w3.heap[wq.heap.size]? = some (.cells #[.string l[p].name, .slice av nv cv] 64 (0, 0)) := fun w3 hgr =>
            (hgr.block _ (by simp; omega) (fun e => by have := (hlo _ e.symm).1; omega)).trans (box_old _ (show wr.drew.heap[wq.heap.size]? = _ from hbx))
          have hrd := rev_drop hq
          have hlen : (l[p].blts.drop (q + 1)).reverse.length ≤ 1000000 := by simp; omega
          have HOw := Lib.hid hOw; have Hu := Lib.hid hu; have HK3 := Lib.hid hK3; have Hnw := Lib.hid hnw; have Hlo := Lib.hid hlo; have Hrd := Lib.hid hrd; have Hlen := Lib.hid hlen; have Hbx := Lib.hid hbx
          clear hOw hu hK3 hnw hlo hin hy hrd hlen hbc hbf hbx hjz hjp hj
          go_wp2
          go_region_law (refine step_appV _ Try.infoBlt rfl rfl Try.underlying62 ⟨rfl, by omega, by omega⟩ (dBlt.one _) (dBlt.stable (Cut Any w2.heap.size)) (wq.heap.size + 1) HOw.out rfl Hu.out rfl (by have := Hlen.out; simp at this ⊢; omega) (by simp; omega) ?_; intro a7 n7 c7 w3 hgr hat ho1; have g3 := HK3.out w3 hgr; obtain ⟨-, q1, q2⟩ := own_box (Below.refl _ w3) (size_of_box g3) g3; have q11 := q1 1; have q21 := q2 1)
          all_goals go_wp2
          all_goals have ho2 := ho1 (.of_grown hgr (fun g hg he => by have := (Hlo.out g he.symm).1; have := hg.2; omega))
          all_goals have ho3 := Own.setCell (dBlt.stable (Cut Any w2.heap.size)) ho2 (p := ⟨wq.heap.size, 1, none⟩) (by simp) (fun hh => by have := hh.2; simp at this; omega) (.slice a7 n7 c7)
          all_goals have hz3 := hgr.size
          all_goals refine ⟨⟨q, (q : Int) - 1, a7, n7, c7, by go_num, rfl, by omega, heap_setCell_at (o := 1) g3 _, Lib.hid (by rw [Hrd.out]; exact ho3), ?_, ?_⟩, by simp [intOf] <;> omega⟩
          all_goals first
            | (rw [size_setCell']; simp at hz3; omega)
            | exact ((hbi.trans (Hnw.out.mono (by omega))).grown hgr (by simp; omega) (fun g hg => by have := (Hlo.out g hg).1; omega)).setCell (p := ⟨wq.heap.size, 1, none⟩) (Nat.le_refl _) _
theorem law_order (v : Value) (l : List Btc) (c kind : Int) (w : World) (h : RBtcs Any w v l) (_ : (Lit.int .i64 c).wf = true) (_ : (Lit.int .u8 kind).wf = true) :
    Calls Try.prog 11 #[v, .int .i64 c, .int .u8 kind] w fun e w' => e = .returned (.bool true) ∧ Below w.heap.size w w' := by
  cases hg : great l
  · exact order_small v l c kind w h hg
  · exact order_great v l c kind w h hg
end Go.Proofs.Ytkjgddcjhikdgaa
