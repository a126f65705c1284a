/- The law RecordSums returns true whatever the input, and every argument reads behind the call as it read before. No condition. -/
import Derived.Test.YtkjgddcjhikdgaaKGAdd
import Derived.Test.YtkjgddcjhikdgaaKGOrd
import Derived.Test.YtkjgddcjhikdgaaRows
import Derived.Test.YtkjgddcjhikdgaaKGFoot
import Derived.WalkKit
import Derived.ProofKit
import Derived.OpenShut
import Derived.ShutString
import Derived.ChangeOld
import Derived.Below

/- The walk of the law RecordSums. -/
namespace Go.Proofs.Ytkjgddcjhikdgaa
open Go Go.RowKit Go.Shelf

set_option maxHeartbeats 4000000 in
set_option maxRecDepth 100000 in
theorem sums_great (v : Value) (l : List Btc) (c kind : Int) (w : World) (h : RBtcs Any w v l) (hg : great l = true) :
    Calls Try.prog 13 #[v, .int .i64 c, .int .u8 kind] w fun e w' => e = .returned (.bool true) ∧ Below w.heap.size w w' := by
  have hG := fun W (hW : Below w.heap.size w W) => great26 Any v l W (h.same (.of_below hW))
  rw [hg] at hG
  obtain ⟨a, cap, rfl, -, -⟩ := RSl.shape h
  have HG := Lib.hid hG
  clear hG h hg
  go_enter Try.func13, Try.ntmps13
  go_wp2_with (first
    | (go_at_call 58; refine (alive26 _).mono ?_; rintro e w1 ⟨rfl, hb1⟩; have hz1 := hb1.size)
    | (go_at_call 18; refine (HG.out _ hb1).mono ?_; rintro e w2 ⟨rfl, hb2⟩; have hp2 := hb1.trans (hb2.mono hz1)))
  go_ret
  exact ⟨rfl, hp2⟩
set_option maxHeartbeats 4000000 in
set_option maxRecDepth 100000 in
theorem sums_bad (v : Value) (l : List Btc) (c kind : Int) (w : World) (h : RBtcs Any w v l) (hg : great l = false) (hI : tallyI l c kind ≠ 0) :
    Calls Try.prog 13 #[v, .int .i64 c, .int .u8 kind] w fun e w' => e = .returned (.bool true) ∧ Below w.heap.size w w' := by
  have hG := fun W (hW : Below w.heap.size w W) => great26 Any v l W (h.same (.of_below hW))
  rw [hg] at hG
  have hV : tallyV l c kind = noP := by rw [tallyV, if_neg hI]
  obtain ⟨I, hII⟩ : ∃ I, tallyI l c kind = I := ⟨_, rfl⟩
  have hT1 := fun W (hW : Below w.heap.size w W) => (recTally Any v l c kind W (h.same (.of_below hW))).mono fun _ _ => TalOpen.of (n := 0) hII hV rfl
  have hq : (I != 0) = true := by rw [hII] at hI; simpa using hI
  obtain ⟨a, cap, rfl, -, -⟩ := RSl.shape h
  have HG := Lib.hid hG; have HT1 := Lib.hid hT1
  clear hG h hg hI hII hV hT1
  go_enter Try.func13, Try.ntmps13
  go_wp2_with (first
    | (go_at_call 58; refine (alive26 _).mono ?_; rintro e w1 ⟨rfl, hb1⟩; have hz1 := hb1.size)
    | (go_at_call 18; refine (HG.out _ hb1).mono ?_; rintro e w2 ⟨rfl, hb2⟩; have hp2 := hb1.trans (hb2.mono hz1); have hz2 := hp2.size)
    | (go_at_call 59; refine (HT1.out _ hp2).mono ?_; rintro e w4 ⟨a4, c4, rfl, hv4, hb4⟩; have hp4 := belT hp2 hb4 hz2; have hz4 := hp4.size; clear hv4 hb4; simp only [noP] at *))
  go_ret
  exact ⟨rfl, by go_grown⟩
theorem VProf.stay {S : Nat → Prop} {W : World} {v : Value} {p : Prof} (h : VProf S W v p) {b : Nat} (hb : ¬ S b) (i : Nat) (x : Value) : VProf S (W.setCell ⟨b, i, none⟩ x) v p :=
  h.same (fun g _ hs => Below.heap_setCell _ _ _ _ (by rintro rfl; exact hb hs))
/-- One batch of the list, as a list. -/
theorem one_sub {S : Nat → Prop} {w : World} {b off n cap : Nat} {l : List Btc} (h : RBtcs S w (.slice (some ⟨b, off, none⟩) n cap) l) {k : Nat} (hk : k < l.length) : RBtcs S w (.slice (some ⟨b, off + k * 2, none⟩) 1 (cap - k)) [l[k]] := by
  have hn : l.length ≤ cap := RSl.cap h
  obtain ⟨b', off', c, d, e, hS, hb, hc, hd, hx⟩ := RSl.at2 h k hk
  cases e
  refine ⟨_, cap - k, [c, d], rfl, by simp; omega, by simp, Dec.single rfl hx, .inr ⟨b, off + k * 2, rfl, hS, fun j u hu => ?_⟩⟩
  match j, hu with
  | 0, hu => cases hu; exact hc
  | 1, hu => cases hu; exact hd
theorem rowsOf_take {l : List Btc} {k : Nat} (hk : k < l.length) : ((rowsOf (l.take (k + 1))).length : Int) = (rowsOf (l.take k)).length + l[k].blts.length := by
  rw [List.take_succ_eq_append_getElem hk, rowsOf_append, List.length_append, rowsOf_cons, rowsOf_nil]; simp
set_option maxHeartbeats 2000000 in
set_option maxRecDepth 100000 in
theorem sums_ok (v : Value) (l : List Btc) (c kind : Int) (w : World) (h : RBtcs Any w v l) (hg : great l = false) (hI : tallyI l c kind = 0) :
    Calls Try.prog 13 #[v, .int .i64 c, .int .u8 kind] w fun e w' => e = .returned (.bool true) ∧ Below w.heap.size w w' := by
  have hG := fun W (hW : Below w.heap.size w W) => great26 Any v l W (h.same (.of_below hW))
  rw [hg] at hG
  obtain ⟨hl20, hlb⟩ := great_len hg
  obtain ⟨hval, hrc, hl64⟩ := tally_valid hI
  have hV : tallyV l c kind = ⟨c, kind, tal (rowsOf l)⟩ := by rw [tallyV, if_pos hI]
  obtain ⟨hnew, -, hb64, -, -⟩ := recCheck_ok hrc
  obtain ⟨n4, hn4⟩ : ∃ n, (tal (rowsOf l)).length = n := ⟨_, rfl⟩
  have hT1 := fun W (hW : Below w.heap.size w W) => (recTally Any v l c kind W (h.same (.of_below hW))).mono fun _ _ => TalOpen.of (p := ⟨c, kind, tal (rowsOf l)⟩) hI hV hn4
  have hT2 := fun W u k (hk : k < l.length) (hu : RBtcs Any W u [l[k]]) => (recTally Any u [l[k]] c kind W hu).mono fun _ _ => TalOpen.of (p := ⟨c, kind, tal (rowsOf [l[k]])⟩) (one_tally hI hk) (by rw [tallyV, if_pos (one_tally hI hk)]) rfl
  have hN := fun W => profNew_ok c kind W (newOk_iff.2 hnew)
  have hg0 : ∀ k, chkP ⟨c, kind, tal (rowsOf (l.take k))⟩ = 0 := fun k => by
    obtain ⟨q1, q2, q3, q4, -⟩ := recCheck_ok hrc
    refine chkP_zero.2 (tal_valid q1 (rowsOf_fit fun b hb => q4 b (List.mem_of_mem_take hb)) ?_ ?_)
    · have := tal_more (occ_take l k); omega
    · have h5 := rowsOf_len (l := l.take k) fun b hb => q3 b (List.mem_of_mem_take hb)
      have h6 : (l.take k).length ≤ 16 := by rw [List.length_take]; omega
      omega
  have hg1 : ∀ k (hk : k < l.length), chkP ⟨c, kind, tal (rowsOf [l[k]])⟩ = 0 := fun k hk => chkP_zero.2 (tally_valid (one_tally hI hk)).1
  have hadd : ∀ k (hk : k < l.length), addR (tal (rowsOf (l.take k))) (tal (rowsOf [l[k]])) = tal (rowsOf (l.take (k + 1))) := fun k hk => by
    rw [← tal_append, ← rowsOf_append, List.take_succ_eq_append_getElem hk]
  have hSum : ∀ (S : Nat → Prop) W u x k (hk : k < l.length), VProf S W u ⟨c, kind, tal (rowsOf (l.take k))⟩ → VProf Any W x ⟨c, kind, tal (rowsOf [l[k]])⟩ → Calls Try.prog 62 #[u, x] W fun e w' => ∃ a m cap, e = .returned (.tuple #[.agg #[.int .i64 c, .int .u8 kind, .slice a m cap], .int .i64 0]) ∧ VProf (fun b => Cut S W.heap.size b ∨ W.heap.size ≤ b) w' (.agg #[.int .i64 c, .int .u8 kind, .slice a m cap]) ⟨c, kind, tal (rowsOf (l.take (k + 1)))⟩ ∧ Below W.heap.size W w' := fun S W u x k hk hu hx => by
    refine (profSum_ok S Any c kind _ _ u x W hu hx (hg0 k) (hg1 k hk) (by rw [hadd k hk]; exact hg0 (k + 1))).mono ?_
    rintro e w' ⟨a, cap, he, hv, hb⟩
    rw [hadd k hk] at he hv
    exact ⟨a, _, cap, he, hv, hb⟩
  have hM := fun W a n cap (hu : VProf Any W (.agg #[.int .i64 c, .int .u8 kind, .slice a n cap]) ⟨c, kind, tal (rowsOf l)⟩) => profMany Any c kind _ a n cap W hu (chkP_zero.2 hval)
  rw [tal_sum] at hM
  have hH := fun W (hW : Below w.heap.size w W) => h.same (.of_below hW)
  have hrl : ∀ k, ((rowsOf (l.take k)).length : Int) ≤ 100000 := fun k => by
    have h5 := rowsOf_len (l := l.take k) fun b hb => hb64 b (List.mem_of_mem_take hb)
    have h6 : (l.take k).length ≤ 20 := by rw [List.length_take]; omega
    omega
  obtain ⟨a, cap, rfl, -, hcap⟩ := RSl.shape h
  have hcap2 := RSl.cap h
  have HG := Lib.hid hG; have HT1 := Lib.hid hT1; have HT2 := Lib.hid hT2; have HN := Lib.hid hN; have HSum := Lib.hid hSum; have HM := Lib.hid hM; have HH := Lib.hid hH; have Hrl := Lib.hid hrl; have Hlb := Lib.hid hlb; have Hnew := Lib.hid hnew
  clear hG hT1 hT2 hN hSum hM hH hrl hlb hg0 hg1 hadd hval hrc hV hI hg h hb64 hl64 hnew hn4
  go_enter Try.func13, Try.ntmps13
  go_wp2_with (first
    | (go_at_call 58; refine (alive26 _).mono ?_; rintro e w1 ⟨rfl, hb1⟩; have hz1 := hb1.size)
    | (go_at_call 18; refine (HG.out _ hb1).mono ?_; rintro e w2 ⟨rfl, hb2⟩; have hp2 := hb1.trans (hb2.mono hz1); have hz2 := hp2.size)
    | (go_at_call 59; refine (HT1.out _ hp2).mono ?_; rintro e w4 ⟨a4, c4, rfl, hv4, hb4⟩; have hp4 := belT hp2 hb4 hz2; have hz4 := hp4.size; have HP4 := Lib.hid hv4; clear hv4 hb4)
    | (go_at_call 61; refine (HN.out _).mono ?_; rintro e w5 ⟨rfl, hb5⟩; have hp5 := belT (B := w.heap.size) (w := w) (by go_grown) hb5 (by go_size); have hz5 := hp5.size; have Hb5 := Lib.hid hb5; clear hb5))
  have hb40 : Below (w4.heap.size + 1) (w4.alloc (.cells #[.int .i64 c, .int .u8 kind, .slice a4 n4 c4] 98)) w5 := by have := Hb5.out; rwa [World.size_alloc] at this
  have hz45 : w4.heap.size < w5.heap.size := by have := hb40.size; simp at this; omega
  have Hb40 := Lib.hid hb40
  have Hbx8 := Lib.hid (box_new w4 (.cells #[.int .i64 c, .int .u8 kind, .slice a4 n4 c4] 98))
  clear hb40 hb1 hz1 hp2 hz2
  go_loopw [12, 13] (fun s i wr => ∃ (k : Nat) (A : Int) (aq : Option Addr) (mq cq : Nat), k ≤ l.length ∧ i = .int .i64 k ∧ s = .int .i64 A ∧ Hid (A = ((rowsOf (l.take k)).length : Int)) ∧ 0 ≤ A ∧ A ≤ 100000 ∧ wr.heap[w5.heap.size]? = some (.cells #[.int .i64 c, .int .u8 kind, .slice aq mq cq] 98 (0, 0)) ∧
    Hid (VProf (fun b => b ≠ w5.heap.size) wr (.agg #[.int .i64 c, .int .u8 kind, .slice aq mq cq]) ⟨c, kind, tal (rowsOf (l.take k))⟩) ∧ Hid (Below (w4.heap.size + 1) (w4.alloc (.cells #[.int .i64 c, .int .u8 kind, .slice a4 n4 c4] 98)) wr)) (fun _ i _ => l.length - (intOf i).toNat)
  case atStart =>
    refine ⟨0, 0, none, 0, 0, Nat.zero_le _, rfl, rfl, Lib.hid (by simp [rowsOf]), by omega, by omega, box_new w5 _, Lib.hid ?_, Lib.hid ?_⟩
    · have := Hnew.out
      exact ⟨none, 0, rfl, by show (0 : Int) ≤ kind; omega, by show kind ≤ 255; omega, RSl.nil⟩
    · have := Hb40.out; exact this.alloc (by omega) _
  case round =>
    obtain ⟨k, A, aq, mq, cq, hk, rfl, rfl, hA, hA0, hA1, hbx, hvp, hbb⟩ := hrel
    have hlt5 := size_of_box hbx
    have hpw : Below w.heap.size w wr := (hp4.trans (below_new w4 (.cells #[.int .i64 c, .int .u8 kind, .slice a4 n4 c4] 98) |>.mono hz4)).trans (hbb.out.mono (by omega))
    have hzw := hpw.size
    by_cases hlt : k < l.length
    · obtain ⟨b, off, c1, d1, rfl, hS1, hbw, hcc, hdd, hx⟩ := RSl.at2 (HH.out w (Below.refl _ _)) k hlt
      obtain ⟨a2, cap2, rfl, rfl, hl2, hnm, hI⟩ := hx.open
      have hone := fun W (hW : Below w.heap.size w W) => one_sub (HH.out W hW) hlt
      obtain ⟨-, hbc, hbf⟩ := own_box (Below.refl _ wr) hlt5 hbx
      have e0 : wr.cell? ⟨w5.heap.size, 0, none⟩ = some (.int .i64 c) := hbc 0
      have e1 : wr.cell? ⟨w5.heap.size, 1, none⟩ = some (.int .u8 kind) := hbc 1
      have e2 : wr.cell? ⟨w5.heap.size, 2, none⟩ = some (.slice aq mq cq) := hbc 2
      have hT := HT2.out wr _ k hlt (hone wr hpw)
      have s1 : ¬ cap = k := by omega
      have s2 : (k : Int) + 1 ≤ cap := by omega
      have s3 : k + 1 - k = 1 := by omega
      have HT := Lib.hid hT; have Hbx := Lib.hid hbx
      clear hx hI hone hbc hbf hT hbx
      have hb2 : b < w.heap.size := hbw
      have hne1 : ¬ w5.heap.size = b := by have := hp5.size; omega
      have hne2 : ¬ b = w5.heap.size := fun e => hne1 e.symm
      have hd7 := fun W (hW : Below w.heap.size w W) => (hW.cell (by show b < w.heap.size; omega)).trans hdd
      have hrt := rowsOf_take hlt
      have hrb := Hrl.out (k + 1)
      have hbl := Hlb.out _ (List.getElem_mem hlt)
      have Hd7 := Lib.hid hd7; have Hrt := Lib.hid hrt; have Hrb := Lib.hid hrb
      clear hd7 hrt hrb hcc hdd
      go_wp2_with (first
        | (go_at_call 59; refine HT.out.mono ?_; rintro e w6 ⟨a6, c6, rfl, hv6, hb6⟩; obtain ⟨q6, k6, -⟩ := own_box hb6 hlt5 Hbx.out; have k60 := k6 0; have k61 := k6 1; have k62 := k6 2; have hlt6 := size_of_box q6; have HV6 := Lib.hid hv6; have Hb6 := Lib.hid hb6; have Hq6 := Lib.hid q6; clear hv6 hb6 k6 q6)
        | (go_at_call 62; refine (HSum.out _ _ _ _ k hlt (VProf.same (.of_below (Below.alloc Hb6.out (Hb6.out.size) _)) hvp.out) (VProf.same (.of_below (below_new _ _)) HV6.out)).mono ?_; rintro e w7 ⟨a7, m7, c7, rfl, hv7, hb7⟩; have hw7 : Below wr.heap.size wr w7 := Below.trans (Below.alloc Hb6.out (Hb6.out.size) _) (hb7.mono (by have := Hb6.out.size; simp; omega)); obtain ⟨q7, k7, f7⟩ := own_box hw7 hlt5 Hbx.out; have k70 := k7 0; have k71 := k7 1; have k72 := k7 2; have f70 := f7 0; have f71 := f7 1; have f72 := f7 2; have hlt7 := size_of_box q7; have hd := Hd7.out w7 (hpw.trans (hw7.mono hzw)); have hbw7 : b < w7.heap.size := (by have := hw7.size; omega); have HV7 := Lib.hid hv7; have Hw7 := Lib.hid hw7; have Hq7 := Lib.hid q7; clear hv7 hb7 k7 f7 hw7 q7 k60 k61 k62))
      have v1 : VProf (fun g => g ≠ w5.heap.size) w7 (.agg #[.int .i64 c, .int .u8 kind, .slice a7 m7 c7]) ⟨c, kind, tal (rowsOf (l.take (k + 1)))⟩ := VProf.mono (fun g hg => by
        rcases hg with hg | hg
        · exact hg.1
        · have := Hb6.out.size; simp at hg; omega) HV7.out
      have hN5 : ¬ (w5.heap.size ≠ w5.heap.size) := fun h => h rfl
      have v2 := ((VProf.stay v1 hN5 0 (.int .i64 c)).stay hN5 1 (.int .u8 kind)).stay hN5 2 (.slice a7 m7 c7)
      have hb9 : Below (w4.heap.size + 1) (w4.alloc (.cells #[.int .i64 c, .int .u8 kind, .slice a4 n4 c4] 98)) w7 := hbb.out.trans (Hw7.out.mono (by omega))
      refine ⟨⟨k + 1, A + (l[k].blts.length : Int), a7, m7, c7, by omega, by go_num, rfl, Lib.hid (by rw [Hrt.out, hA.out]), by omega, ?_, box_old _ (heap_setCell_at (heap_setCell_at (heap_setCell_at Hq7.out _) _) _), Lib.hid (v2.same (.of_below (below_new _ _))), Lib.hid ?_⟩, by simp [intOf]; omega⟩
      · have h1 := Hrb.out
        rw [Hrt.out, ← hA.out] at h1
        exact h1
      · exact (((hb9.setCell (p := ⟨w5.heap.size, 0, none⟩) (by simp; omega) _).setCell (p := ⟨w5.heap.size, 1, none⟩) (by simp; omega) _).setCell (p := ⟨w5.heap.size, 2, none⟩) (by simp; omega) _).alloc (by simp only [size_setCell']; omega) _
    · have hke : k = l.length := by omega
      subst hke
      have hAe : A = ((rowsOf l).length : Int) := by have := hA.out; rwa [List.take_length] at this
      subst hAe
      have hvl : VProf (fun g => g ≠ w5.heap.size) wr (.agg #[.int .i64 c, .int .u8 kind, .slice aq mq cq]) ⟨c, kind, tal (rowsOf l)⟩ := by have := hvp.out; rwa [List.take_length] at this
      have g8 := (hbb.out.block w4.heap.size (by omega)).trans Hbx8.out
      have hpp : VProf Any wr (.agg #[.int .i64 c, .int .u8 kind, .slice a4 n4 c4]) ⟨c, kind, tal (rowsOf l)⟩ := VProf.same (fun b hb _ => (hbb.out.block b (by omega)).trans ((below_new w4 _).block b hb)) HP4.out
      have x8 := (own_box (Below.refl _ wr) (size_of_box g8) g8).2.1
      have e80 := x8 0
      have e81 := x8 1
      have e82 := x8 2
      have hlt8 := size_of_box g8
      have HMM := Lib.hid (HM.out wr a4 n4 c4 hpp)
      have Hg8 := Lib.hid g8; have Hbx := Lib.hid hbx; have Hvl := Lib.hid hvl; have Hpp := Lib.hid hpp
      clear hvl hpp x8 g8 hbx hvp hA
      go_wp2_with (first
        | (go_at_call 63; refine HMM.out.mono ?_; rintro e w8 ⟨rfl, hb8⟩; have x8 := (own_box hb8 hlt8 Hg8.out).2.1; have k80 := x8 0; have k81 := x8 1; have k82 := x8 2; have x9 := (own_box hb8 hlt5 Hbx.out).2.1; have k90 := x9 0; have k91 := x9 1; have k92 := x9 2; have hlt82 : w4.heap.size < w8.heap.size := (by have := hb8.size; omega); have hlt92 : w5.heap.size < w8.heap.size := (by have := hb8.size; omega); have hp8 := hpw.trans (hb8.mono hzw); have hz8 := hp8.size; have Hpp8 := Lib.hid (VProf.same (.of_below hb8) Hpp.out); have Hvl8 := Lib.hid (VProf.same (.of_below hb8) Hvl.out); clear x8 x9 hb8 Hpp Hvl e80 e81 e82)
        | (go_at_call 60; refine (profSameT Any _ _ _ _ _ Hpp8.out Hvl8.out).mono ?_; rintro e w9 ⟨rfl, hb9⟩; have hp9 := hp8.trans (hb9.mono hz8)))
      go_ret
      exact ⟨rfl, hp9⟩
theorem law_sums (v : Value) (l : List Btc) (c kind : Int) (w : World) (h : RBtcs Any w v l) (_ : (Lit.int .i64 c).wf = true) (_ : (Lit.int .u8 kind).wf = true) :
    Calls Try.prog 13 #[v, .int .i64 c, .int .u8 kind] w fun e w' => e = .returned (.bool true) ∧ Below w.heap.size w w' := by
  cases hg : great l
  · by_cases hI : tallyI l c kind = 0
    · exact sums_ok v l c kind w h hg hI
    · exact sums_bad v l c kind w h hg hI
  · exact sums_great v l c kind w h hg
end Go.Proofs.Ytkjgddcjhikdgaa

namespace Go.Proofs.Ytkjgddcjhikdgaa
open Go Go.RowKit Go.ChangeShapes Go.WideShapes Go.ChangeAt

set_option maxRecDepth 100000 in
theorem recordSums_lifted (os : Os) (started : os.Started) (H : Type) (enc : TypeId × Value → H) :
    ReturnsInHanded {} Try.checked os 13 .any (Rows.recordSumsSpec.pre6 enc Try.prog Try.f13 Rows.recordSumsRow.domain false) (Rows.recordSumsSpec.post enc Try.prog Try.f13 false true false false) := by
  refine returnsInHanded_of_change_sized (C := Try.checked) Try.own started (by kernel_rfl) Try.func13
    (ChangeSpec.witness6 (enc := enc) (C := Try.checked) false ⟨#[], #[.slice none 0 0, .int .i64 0, .int .u8 0], []⟩ 8 (by kernel_rfl) (by kernel_rfl) (by kernel_rfl) (by kernel_rfl)) ?_
  intro W base args ds gs before hval0 hW hcnd hsz0 _
  have hval : ∀ (j : Nat) t v, Try.f13.params[j]? = some t → args[j]? = some v → Value.okWide Try.prog W .any base t v := hval0
  have hsz : (DataW.weightsEach Try.prog (Try.f13.params.toList ++ Rows.recordSumsSpec.plain.varTypes Try.prog) (ds ++ gs)).all (· ≤ reachBytes) = true := hsz0
  have hW' := hW
  obtain ⟨p, q, hA0, hV, rfl, hfz, hnd⟩ := hW
  have hA : DataW.TrodAll enc Try.prog W 0 (fun _ => true) true Try.f13.params.toList args.toList ds p := hA0
  rw [Try.params13] at hA hval hsz
  obtain ⟨v0, vs0, d0, ds0, p0, q0, hargs, rfl, rfl, h0, r0⟩ := trodAll_cons hA
  obtain ⟨v1, vs1, d1, ds1, p1, q1, rfl, rfl, rfl, h1, r1⟩ := trodAll_cons r0
  obtain ⟨v2, vs2, d2, ds2, p2, q2, rfl, rfl, rfl, h2, r2⟩ := trodAll_cons r1
  obtain ⟨rfl, rfl, rfl⟩ := trodAll_nil r2
  obtain rfl : args = #[v0, v1, v2] := by cases args; simp_all
  obtain ⟨rfl, rfl⟩ := trodVars_none hV
  have k0 := h0
  have k1 := h1
  have k2 := h2
  have lt0 : ∀ x ∈ p0, x.block < W.heap.size := by obtain ⟨m, hm⟩ := k0; exact DataW.trod_lt m _ _ _ hm
  have lt1 : ∀ x ∈ p1, x.block < W.heap.size := by obtain ⟨m, hm⟩ := k1; exact DataW.trod_lt m _ _ _ hm
  have lt2 : ∀ x ∈ p2, x.block < W.heap.size := by obtain ⟨m, hm⟩ := k2; exact DataW.trod_lt m _ _ _ hm
  obtain ⟨x0, y0⟩ := arg_btcs (hval 0 _ v0 rfl rfl) h0 (weights_at hsz 0 rfl rfl)
  obtain ⟨x1, rfl, e1, e1', wf1⟩ := open_int Try.underlying3 (hval 1 _ v1 rfl rfl) h1
  obtain ⟨x2, rfl, e2, e2', wf2⟩ := open_int Try.underlying5 (hval 2 _ v2 rfl rfl) h2
  clear hA0 hval0
  refine (law_sums v0 x0 x1 x2 W y0 wf1 wf2).mono fun e W' ⟨he, bel⟩ => ?_
  subst he
  exact ⟨_, rfl, _, _, _, [], _, [], hW', trodAll_mk1 (shut_bool Try.underlying4 _), (trodAll_cons_mk (Below.trod Try.laidOut (by kernel_rfl) (of_decide_eq_true (by kernel_rfl)) k0 bel lt0) (trodAll_cons_mk (Below.trod Try.laidOut (by kernel_rfl) (of_decide_eq_true (by kernel_rfl)) k1 bel lt1) (trodAll_cons_mk (Below.trod Try.laidOut (by kernel_rfl) (of_decide_eq_true (by kernel_rfl)) k2 bel lt2) trodAll_mk0))), rfl, bel.frame _, fun h => by cases h⟩

theorem recordSums_named : Try.prog.funcNamed Rows.recordSumsRow.func = some 13 := by kernel_rfl
theorem recordSums_facts : joinedFacts Try.prog 13 Try.f13 Rows.recordSumsSpec Rows.recordSumsRow = true := by kernel_rfl
theorem recordSums_inst : Try.f13.isInstance Try.prog Rows.recordSumsRow.origin Rows.recordSumsRow.targs := of_decide_eq_true (by kernel_rfl)
theorem recordSums_wrap : Try.f13.isWrapper Try.prog Rows.recordSumsRow.wrapper Rows.recordSumsRow.mainSum := by
  unfold Func.isWrapper
  rw [if_neg (of_decide_eq_false (by kernel_rfl))]
  exact ⟨rfl, rfl⟩
theorem recordSums_holds : Rows.RecordSumsSaid :=
  OpenClaim.holds_of_wide 13 Try.f13 rfl rfl rfl rfl rfl rfl rfl ⟨rfl, rfl, rfl, rfl, rfl⟩ rfl rfl rfl rfl rfl recordSums_named Try.func13 recordSums_facts
    recordSums_inst recordSums_wrap
    (fun os started H enc _ => recordSums_lifted os started H enc)
#print axioms recordSums_holds
end Go.Proofs.Ytkjgddcjhikdgaa
