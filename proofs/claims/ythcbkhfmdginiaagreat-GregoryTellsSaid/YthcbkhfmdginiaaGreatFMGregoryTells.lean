/- The law GregoryTells returns true whatever the input, and every argument reads behind the call as it read before. No condition. -/
import Derived.Test.YthcbkhfmdginiaaGreatFGDec
import Derived.Test.YthcbkhfmdginiaaGreatFGRul
import Derived.Test.YthcbkhfmdginiaaGreatFGR18
import Derived.Test.YthcbkhfmdginiaaGreatFGWakG
import Derived.Test.YthcbkhfmdginiaaGreatFGRen
import Derived.Test.YthcbkhfmdginiaaGreatFGSam
import Derived.Test.YthcbkhfmdginiaaGreatFGGreA
import Derived.Test.YthcbkhfmdginiaaGreatRows
import Derived.WalkKit
import Derived.ProofKit
import Derived.OpenShut
import Derived.ShutString
import Derived.ChangeOld
import Derived.Below

namespace Go.Proofs.YthcbkhfmdginiaaGreat

theorem alike_asc {C : Nat} {H l : List Int} (hH : H.length = C) (ha : l.Pairwise (fun a b => a < b)) (hr : ∀ y ∈ l, 0 ≤ y ∧ y < (C : Int)) : alikeL l H = bestL (gI H) l := by
 have e := filter_all ha hr
 have := alike_best (has := H) (p := fun y => l.contains y)
 rwa [hH, e] at this
theorem gI_negs {has : List Int} {y : Int} : gI (has.map fun x => -x) y = - gI has y := by
 rw [gI, gI, List.getD_eq_getElem?_getD, List.getD_eq_getElem?_getD, List.getElem?_map]
 cases has[y.toNat]? <;> simp
theorem alike_neg {C : Nat} {H l : List Int} (hH : H.length = C) (ha : l.Pairwise (fun a b => a < b)) (hr : ∀ y ∈ l, 0 ≤ y ∧ y < (C : Int)) : alikeL l (H.map fun x => -x) = bestL (fun y => - gI H y) l := by
 rw [alike_asc (C := C) (by rw [List.length_map, hH]) ha hr]
 congr 1
 funext y
 exact gI_negs
section
variable {p : Prof} {seats : Int} {lot : List Int} {C sn : Nat}
theorem gre_bnd (h : RankF p seats lot C sn) (i : Nat) : (gHad p sn lot C i).length = C ∧ (∀ x : Nat, 0 ≤ gI (gHad p sn lot C i) x ∧ gI (gHad p sn lot C i) x ≤ 1000000000000000) ∧ 0 ≤ gLost p sn lot C i ∧ gLost p sn lot C i ≤ 1000000000000000 := by
 have hg := h.gval (greS_inv h i)
 have hq := h.q
 have hlen : (gHad p sn lot C i).length = C := by rw [gHad, greH, fl_length]
 have hb : ∀ x : Nat, 0 ≤ gI (gHad p sn lot C i) x ∧ gI (gHad p sn lot C i) x ≤ 1000000000000000 := fun x => by
  by_cases hx : x < C
  ·rw [gI_at (by rw [hlen]; exact hx)]
   simp only [gHad, greH]
   rw [fl_get]
   have h1 := hg.cntAll (greS p sn lot i).inn (x : Int)
   unfold greF
   split <;> omega
  ·have : gI (gHad p sn lot C i) x = 0 := by rw [gI, List.getD_eq_getElem?_getD, List.getElem?_eq_none (by rw [hlen]; omega)]; rfl
   omega
 refine ⟨hlen, hb, ?_⟩
 have hv := h.votes
 have hs : 0 ≤ (gHad p sn lot C i).sum := by
  have : ∀ l : List Int, (∀ y ∈ l, 0 ≤ y) → 0 ≤ l.sum := fun l => by
   induction l with
   | nil => intro _; simp
   | cons a l ih => intro hl; rw [List.sum_cons]; have := hl a List.mem_cons_self; have := ih fun y hy => hl y (List.mem_cons_of_mem _ hy); omega
  refine this _ fun y hy => ?_
  obtain ⟨j, hj, rfl⟩ := List.getElem_of_mem hy
  have := hb j
  rw [gI_at hj] at this
  exact this.1
 unfold gLost greL
 unfold gHad at hs
 omega
structure GreW (p : Prof) (sn : Nat) (lot : List Int) (C i : Nat) (e o : List Int) : Prop where
 rounds : (greS p sn lot (i + 1)).rounds = (greS p sn lot i).rounds ++ [⟨(gHad p sn lot C i).map bill, bill (gLost p sn lot C i), e, o⟩]
 el : (greS p sn lot (i + 1)).el = (greS p sn lot i).el ++ e
 way : ((greS p sn lot i).inn.length + (greS p sn lot i).el.length ≤ sn ∧ o = [] ∧ e = (fillS (gHad p sn lot C i) lot (greS p sn lot i).inn (greS p sn lot i).inn.length).elected ∧ (greS p sn lot (i + 1)).inn = (fillS (gHad p sn lot C i) lot (greS p sn lot i).inn (greS p sn lot i).inn.length).left ∧
   (greS p sn lot (i + 1)).st = (greS p sn lot i).st ∧ (greS p sn lot (i + 1)).ties = (greS p sn lot i).ties ++ (fillS (gHad p sn lot C i) lot (greS p sn lot i).inn (greS p sn lot i).inn.length).ties) ∨
  (¬ (greS p sn lot i).inn.length + (greS p sn lot i).el.length ≤ sn ∧ o = [] ∧ e = [firstL lot (bestL (gI (gHad p sn lot C i)) (greS p sn lot i).inn)] ∧ (∀ y ∈ bestL (gI (gHad p sn lot C i)) (greS p sn lot i).inn, greQ p sn ≤ gI (gHad p sn lot C i) y) ∧
   (greS p sn lot (i + 1)).inn = (greS p sn lot i).inn.filter (fun y => !(y == firstL lot (bestL (gI (gHad p sn lot C i)) (greS p sn lot i).inn))) ∧
   (greS p sn lot (i + 1)).st = (greS p sn lot i).st.map (passG (greS p sn lot i).inn (greQ p sn) (firstL lot (bestL (gI (gHad p sn lot C i)) (greS p sn lot i).inn)) (gI (gHad p sn lot C i) (firstL lot (bestL (gI (gHad p sn lot C i)) (greS p sn lot i).inn)))) ∧
   (greS p sn lot (i + 1)).ties = (greS p sn lot i).ties ++ tieL (bestL (gI (gHad p sn lot C i)) (greS p sn lot i).inn) (firstL lot (bestL (gI (gHad p sn lot C i)) (greS p sn lot i).inn))) ∨
  (¬ (greS p sn lot i).inn.length + (greS p sn lot i).el.length ≤ sn ∧ e = [] ∧ o = [firstL lot.reverse (bestL (fun y => - gI (gHad p sn lot C i) y) (greS p sn lot i).inn)] ∧ (∀ y ∈ (greS p sn lot i).inn, gI (gHad p sn lot C i) y < greQ p sn) ∧
   (greS p sn lot (i + 1)).inn = (greS p sn lot i).inn.filter (fun y => !(y == firstL lot.reverse (bestL (fun y => - gI (gHad p sn lot C i) y) (greS p sn lot i).inn))) ∧ (greS p sn lot (i + 1)).st = (greS p sn lot i).st ∧
   (greS p sn lot (i + 1)).ties = (greS p sn lot i).ties ++ tieL (bestL (fun y => - gI (gHad p sn lot C i) y) (greS p sn lot i).inn) (firstL lot.reverse (bestL (fun y => - gI (gHad p sn lot C i) y) (greS p sn lot i).inn)))
theorem gre_way (h : RankF p seats lot C sn) {i : Nat} (hi : (greS p sn lot i).el.length < sn) : ∃ e o, GreW p sn lot C i e o := by
 have hI := greS_sq h i
 have hst := greS_step h hi
 have hre : (greS p sn lot i).reach (greR C (greQ p sn) (markS p.rows)) = (greS p sn lot i).inn.any fun x => decide (greQ p sn ≤ gI (gHad p sn lot C i) x) := rfl
 have hhad : (greS p sn lot i).had (greR C (greQ p sn) (markS p.rows)) = gHad p sn lot C i := rfl
 by_cases hf : (greS p sn lot i).inn.length + (greS p sn lot i).el.length ≤ sn
 ·have hs : greS p sn lot (i + 1) = ⟨(greS p sn lot i).st, [], (greS p sn lot i).el ++ (fillS (gHad p sn lot C i) lot (greS p sn lot i).inn (greS p sn lot i).inn.length).elected, (greS p sn lot i).rounds ++ [⟨(gHad p sn lot C i).map bill, bill (gLost p sn lot C i), (fillS (gHad p sn lot C i) lot (greS p sn lot i).inn (greS p sn lot i).inn.length).elected, []⟩], (greS p sn lot i).ties ++ (fillS (gHad p sn lot C i) lot (greS p sn lot i).inn (greS p sn lot i).inn.length).ties⟩ := by
   rw [hst, step, if_pos hf]; rfl
  refine ⟨_, _, ?_, ?_, .inl ⟨hf, rfl, rfl, ?_, ?_, ?_⟩⟩
  ·rw [hs]
  ·rw [hs]
  ·rw [hs]; exact (fill_all h.lot hI.rng (asc_nodup hI.asc)).symm
  ·rw [hs]
  ·rw [hs]
 ·cases hr : (greS p sn lot i).reach (greR C (greQ p sn) (markS p.rows)) with
  | true =>
   obtain ⟨x, hx⟩ : ∃ x, firstL lot (bestL (gI (gHad p sn lot C i)) (greS p sn lot i).inn) = x := ⟨_, rfl⟩
   have hs : greS p sn lot (i + 1) = ⟨(greS p sn lot i).st.map (passG (greS p sn lot i).inn (greQ p sn) x (gI (gHad p sn lot C i) x)), (greS p sn lot i).inn.filter (fun y => !(y == x)), (greS p sn lot i).el ++ [x], (greS p sn lot i).rounds ++ [⟨(gHad p sn lot C i).map bill, bill (gLost p sn lot C i), [x], []⟩], (greS p sn lot i).ties ++ tieL (bestL (gI (gHad p sn lot C i)) (greS p sn lot i).inn) x⟩ := by
    rw [hst, step, if_neg hf, if_pos hr, ← hx]; rfl
   rw [hre] at hr
   obtain ⟨z, hz, hq⟩ := List.any_eq_true.1 hr
   have hq := of_decide_eq_true hq
   refine ⟨[x], [], ?_, ?_, .inr (.inl ⟨hf, rfl, by rw [hx], fun y hy => Int.le_trans hq ((bestL_mem.1 hy).2 z hz), ?_, ?_, ?_⟩)⟩
   ·rw [hs]
   ·rw [hs]
   ·rw [hs, hx]
   ·rw [hs, hx]
   ·rw [hs, hx]
  | false =>
   obtain ⟨x, hx⟩ : ∃ x, firstL lot.reverse (bestL (fun y => - gI (gHad p sn lot C i) y) (greS p sn lot i).inn) = x := ⟨_, rfl⟩
   have hs : greS p sn lot (i + 1) = ⟨(greS p sn lot i).st, (greS p sn lot i).inn.filter (fun y => !(y == x)), (greS p sn lot i).el, (greS p sn lot i).rounds ++ [⟨(gHad p sn lot C i).map bill, bill (gLost p sn lot C i), [], [x]⟩], (greS p sn lot i).ties ++ tieL (bestL (fun y => - gI (gHad p sn lot C i) y) (greS p sn lot i).inn) x⟩ := by
    rw [hst, step, if_neg hf, if_neg (by rw [hr]; simp), ← hx]; rfl
   rw [hre] at hr
   refine ⟨[], [x], ?_, ?_, .inr (.inr ⟨hf, rfl, by rw [hx], fun y hy => ?_, ?_, ?_, ?_⟩)⟩
   ·rw [hs]
   ·rw [hs]; simp
   ·have := of_decide_eq_false (Bool.eq_false_iff.2 (List.any_eq_false.1 hr y hy))
    omega
   ·rw [hs, hx]
   ·rw [hs]
   ·rw [hs, hx]
end
end Go.Proofs.YthcbkhfmdginiaaGreat

namespace Go.Proofs.YthcbkhfmdginiaaGreat
open Go Go.RowKit Go.Shelf Limb

set_option maxRecDepth 100000 in
set_option maxHeartbeats 2000000 in
theorem r18Count_bad (S T : Nat → Prop) (u v : Value) (p : Prof) (seats : Int) (lot : List Int) (w : World) (h : VProf S w u p) (hv : RInts T w v lot) (h0 : rankI p seats lot ≠ 0) :
  Calls Tryz.prog 17 #[u, .int .i64 seats, v] w (GivesE (rankI p seats lot) (greV p seats lot) w) := by
 have h1 := h
 obtain ⟨a, cap, rfl, -, -, -⟩ := h
 obtain ⟨a2, cap2, rfl, -, -⟩ := RSl.shape hv
 rw [greV, if_neg h0]
 obtain ⟨W2, hW2⟩ : ∃ W2, W2 = (w.alloc (.cells #[.int .i64 p.cands, .int .u8 p.kind, .slice a p.rows.length cap] 24)).alloc (.cells #[.slice none 0 0, .slice none 0 0, .slice none 0 0] 32) := ⟨_, rfl⟩
 have hb0 : Below w.heap.size w W2 := by rw [hW2]; exact ((Below.refl _ _).alloc (Nat.le_refl _) _).alloc (by simp) _
 have hbo : W2.heap[w.heap.size + 1]? = some (.cells #[.slice none 0 0, .slice none 0 0, .slice none 0 0] 32 (0, 0)) := by
  have := box_new (w.alloc (.cells #[.int .i64 p.cands, .int .u8 p.kind, .slice a p.rows.length cap] 24)) (.cells #[.slice none 0 0, .slice none 0 0, .slice none 0 0] 32)
  rw [hW2]
  rwa [World.size_alloc] at this
 have hC := r11May S T _ _ p 1 seats p.cands lot W2 (h1.same (.of_below hb0)) (hv.same (.of_below hb0))
 have hI : countI p 1 seats p.cands lot = rankI p seats lot := rfl
 obtain ⟨cc, hcc⟩ : ∃ c, p.cands = c := ⟨_, rfl⟩
 obtain ⟨kk, hkk⟩ : ∃ c, p.kind = c := ⟨_, rfl⟩
 obtain ⟨n, hn⟩ : ∃ n, p.rows.length = n := ⟨_, rfl⟩
 obtain ⟨nl, hnl⟩ : ∃ n, lot.length = n := ⟨_, rfl⟩
 obtain ⟨I, hI2⟩ : ∃ I, rankI p seats lot = I := ⟨_, rfl⟩
 rw [hI, hI2] at hC
 rw [hI2] at h0
 rw [hcc, hkk, hn, hnl] at hC
 rw [hcc, hkk, hn] at hW2
 rw [hcc, hkk, hn, hnl, hI2]
 have hne : (I != 0) = true := by simpa using h0
 rw [hW2] at hC
 have HC := Lib.hid hC; have Hbo := Lib.hid hbo; have HW2 := Lib.hid hW2; have Hb0 := Lib.hid hb0
 clear hC hbo hW2 hb0 h1 hv hcc hkk hn hnl hI hI2 h0
 go_enter Tryz.func17, Tryz.ntmps17
 go_wp2_with (go_at_call 64; refine HC.out.mono ?_; rintro e w5 ⟨rfl, hb⟩; rw [← HW2.out] at hb; obtain ⟨g3, gc3, gf3⟩ := own_box hb (size_of_box Hbo.out) Hbo.out; have gc30 := gc3 0; have gc31 := gc3 1; have gc32 := gc3 2; have gf30 := gf3 0; have gf31 := gf3 1; have gf32 := gf3 2; have hlt3 : w.heap.size + 1 < w5.heap.size := size_of_box g3; have K2 := Lib.hid (bt Hb0.out hb); clear hb)
 refine bodyPost_ret (v := .tuple #[.agg #[.slice none 0 0, .slice none 0 0, .slice none 0 0], .int .i64 I]) (by simp [results, Tryz.results17, go_sem, gc3]) rfl (GivesE.nil I ?_)
 exact ((K2.out.setCell (p := ⟨w.heap.size + 1, 0, none⟩) (by simp) _).setCell (p := ⟨w.heap.size + 1, 1, none⟩) (by simp) _).setCell (p := ⟨w.heap.size + 1, 2, none⟩) (by simp) _
theorem RS.asideY {k : RCn} {w w1 : World} {ve vrd vt : Value} {vals el : List Int} {rounds : List Rnd} {ties : List Tie} {X Y K : Blks} (h : RS { k with x := X } w ve vrd vt vals el rounds ties) (hk : Keep K w w1) (hK : ∀ b, some b ∈ K → some b ∈ X ∧ some b ∉ k.M ve vrd vt)
  (hY : ∀ b, some b ∈ Y → b < w1.heap.size ∧ (some b ∈ X ∨ w.heap.size ≤ b)) : RS { k with x := Y } w1 ve vrd vt vals el rounds ties := by
 have h1 := h.aside hk hK
 have hK2 : ∀ b, some b ∈ K → some b ∈ X ++ k.M ve vrd vt := fun b hb => List.mem_append_left _ (hK b hb).1
 have hup : ∀ b, (RCn.mk k.base k.g k.gv X).R w ve vrd vt b → (RCn.mk k.base k.g k.gv Y).R w1 ve vrd vt b := Rk.up hk.size fun b hbs hm => by
  rcases List.mem_append.1 hm with hm | hm
  ·rcases (hY b hm).2 with h2 | h2
   ·exact List.mem_append_left _ h2
   ·omega
  ·exact List.mem_append_right _ hm
 exact ⟨h1.bg, h1.va, h1.oe, Own.dmono (fun _ _ hd => dRnd.mono hup hd) (hk.own (dRnd.stable _) h.ord (fun b e hb => (hK b hb).2 (by simp [RCn.M, e])) (Rk.out hK2)), Own.dmono (fun _ _ hd => dTie.mono hup hd) (hk.own (dTie.stable _) h.ot (fun b e hb => (hK b hb).2 (by simp [RCn.M, e])) (Rk.out hK2)), h.ne, h.lg, fun b hb => (hY b hb).1⟩
theorem rd_up {L L' K : Blks} {base : Nat} {w w1 : World} {v : Value} {l : List Int} (hr : RInts (Rk L base w) w v l) (hk : Keep K w w1) (hK : ∀ b, some b ∈ K → some b ∈ L) (hL : ∀ b, b < w.heap.size → some b ∈ L' → some b ∈ L) : RInts (Rk L' base w1) w1 v l :=
 RInts.mono (Rk.up hk.size hL) (hk.rints hr (Rk.out hK))
theorem RS.gr {k : RCn} {w w1 : World} {ve vrd vt : Value} {vals el : List Int} {rounds : List Rnd} {ties : List Tie} (h : RS k w ve vrd vt vals el rounds ties) {o : Option Nat} {t : TypeId} (ho : (o, t) ∈ k.L ve vrd vt) (ht : 32 ≠ t) (hg : w.grownBy w1 o) :
  w1.heap[k.g]? = some (.cells #[ve, vrd, vt] 32 (0, 0)) :=
 h.kbg (Keep.of_grown hg) fun hm => h.df (o1 := some k.g) (t1 := 32) (by simp [RCn.L]) ho ht _ rfl (List.mem_singleton.1 hm)
theorem own_nbox {α : Type} {base n g : Nat} {e t : TypeId} {dec : World → List Value → α → Prop} {W : World} {v : Value} {xs : List α} {cs : Array Value} (ho : Own base e n dec W v xs) (hg : W.heap[g]? = some (.cells cs t (0, 0))) (hne : e ≠ t) : v.ownBlock ≠ some g := by
 intro h
 obtain ⟨cur, h1⟩ := own_type ho h
 rw [h1] at hg
 simp only [Option.some.injEq, Obj.cells.injEq] at hg
 exact hne hg.2.1
theorem ent_one {S : Nat → Prop} {w : World} {a : Option Addr} {c : Nat} {n : Int} (h : RRts S w (.slice a 1 c) [bill n]) (h0 : 0 ≤ n) :
  ∃ b off u3 l3 m3 u4 l4 m4, a = some ⟨b, off, none⟩ ∧ w.cell? ⟨b, off, none⟩ = some (.bool false) ∧ w.cell? ⟨b, off + 1, none⟩ = some (.slice u3 l3 m3) ∧ w.cell? ⟨b, off + 2, none⟩ = some (.slice u4 l4 m4) ∧
   RU S w (.slice u3 l3 m3) (bill n).num ∧ RU S w (.slice u4 l4 m4) (bill n).den ∧ (bill n).neg = false := by
 obtain ⟨hb_, hoff, d0, d1, d2, rfl, hS3, hsz3, k0, k1, k2, kd⟩ := RSl.at3 h 0 (by simp)
 rw [Nat.zero_mul, Nat.add_zero] at k0 k1 k2
 obtain ⟨vn, vd, he, r1, r2⟩ := kd
 simp only [List.cons.injEq, and_true] at he
 obtain ⟨rfl, rfl, rfl⟩ := he
 obtain ⟨u3, m3, rfl, -, -⟩ := RSl.shape r1
 obtain ⟨u4, m4, rfl, -, -⟩ := RSl.shape r2
 have hneg : (bill n).neg = false := by
  obtain ⟨z, rfl⟩ : ∃ z : Nat, n = (z : Int) := ⟨n.toNat, by omega⟩
  rw [bill_of]
 simp only [List.getElem_cons_zero] at k0 r1 r2 k1 k2
 rw [hneg] at k0
 exact ⟨hb_, hoff, _, _, _, _, _, _, rfl, k0, k1, k2, r1, r2, hneg⟩
end Go.Proofs.YthcbkhfmdginiaaGreat

namespace Go.Proofs.YthcbkhfmdginiaaGreat
open Go Go.RowKit Go.Shelf Limb

theorem fl_vals {rows : List Row} {m : Nat} (h : rows.length = m) : (fl m fun x => if x < m then (1000000000 : Int) else 0) = (rows.map fun r => (r, (1000000000 : Int))).map Prod.snd := by
 apply List.ext_getElem (by rw [fl_length, List.length_map, List.length_map, h])
 intro i i1 i2
 rw [fl_get, List.getElem_map, List.getElem_map, if_pos (by rw [fl_length] at i1; exact i1)]
def valK (inn : List Int) (Q x n : Int) (st : RV) (k : Nat) : List Int := ((st.take k).map (passG inn Q x n) ++ st.drop k).map Prod.snd
theorem valK_zero (inn : List Int) (Q x n : Int) (st : RV) : valK inn Q x n st 0 = st.map Prod.snd := by simp [valK]
theorem valK_all (inn : List Int) (Q x n : Int) (st : RV) : valK inn Q x n st st.length = (st.map (passG inn Q x n)).map Prod.snd := by simp [valK]
theorem valK_len {inn : List Int} {Q x n : Int} {st : RV} {k : Nat} : (valK inn Q x n st k).length = st.length := by
 simp only [valK, List.length_map, List.length_append, List.length_take, List.length_drop]; omega
theorem valK_get {inn : List Int} {Q x n : Int} {st : RV} {k : Nat} (h : k < st.length) : (valK inn Q x n st k)[k]'(by rw [valK_len]; exact h) = st[k].2 := by
 simp only [valK, List.getElem_map]
 rw [List.getElem_append_right (by rw [List.length_map, List.length_take]; omega)]
 simp only [List.length_map, List.length_take, List.getElem_drop]
 congr 2
 omega
theorem valK_step {inn : List Int} {Q x n : Int} {st : RV} {k : Nat} (h : k < st.length) : valK inn Q x n st (k + 1) = (valK inn Q x n st k).set k (passG inn Q x n st[k]).2 := by
 have e : ∀ (A B : List Int) (y z : Int) (k : Nat), A.length = k → (A ++ y :: B).set k z = A ++ z :: B := fun A B y z k hk => by
  subst hk; simp
 have h1 : valK inn Q x n st k = ((st.take k).map (passG inn Q x n)).map Prod.snd ++ st[k].2 :: (st.drop (k + 1)).map Prod.snd := by
  rw [valK, List.drop_eq_getElem_cons h, List.map_append, List.map_cons]
 rw [h1, e _ _ _ _ k (by rw [List.length_map, List.length_map, List.length_take]; omega), valK, List.take_succ_eq_append_getElem h, List.map_append, List.map_append, List.map_append, List.append_assoc]
 rfl
theorem valK_same {inn : List Int} {Q x n : Int} {st : RV} {k : Nat} (h : k < st.length) (hn : nextI inn st[k].1.marks ≠ some x) : valK inn Q x n st (k + 1) = valK inn Q x n st k := by
 rw [valK_step h, passG, if_neg hn, ← valK_get (inn := inn) (Q := Q) (x := x) (n := n) h, List.set_getElem_self]
theorem told_rd {L : Blks} {base : Nat} {w w1 : World} {v : Value} {xs : List Rt} (h : OwnX w.heap.size 56 3 dRt w1 v xs) (hl : xs.length ≤ 1000) (hL : ∀ b, some b ∈ L → b < w.heap.size) (hb : base ≤ w.heap.size) : RRts (Rk L base w1) w1 v xs :=
 Rk.lift famRt (OwnX.rsl famRt (by omega) h (by omega)) fun b hb' => ⟨Nat.le_trans hb hb'.1, hb'.2, fun hm => by have := hL b hm; have := hb'.1; omega⟩
theorem rt_up {L L' K : Blks} {base : Nat} {w w1 : World} {v : Value} {l : List Rt} (hr : RRts (Rk L base w) w v l) (hk : Keep K w w1) (hK : ∀ b, some b ∈ K → some b ∈ L) (hL : ∀ b, b < w.heap.size → some b ∈ L' → some b ∈ L) : RRts (Rk L' base w1) w1 v l :=
 RRts.mono (Rk.up hk.size hL) (RRts.same (hk.same (Rk.out hK)) hr)
theorem ru_up {L L' K : Blks} {base : Nat} {w w1 : World} {v : Value} {l : List Int} (hr : RU (Rk L base w) w v l) (hk : Keep K w w1) (hK : ∀ b, some b ∈ K → some b ∈ L) (hL : ∀ b, b < w.heap.size → some b ∈ L' → some b ∈ L) : RU (Rk L' base w1) w1 v l :=
 RU.mono (Rk.up hk.size hL) (RU.same (hk.same (Rk.out hK)) hr)
set_option maxRecDepth 100000 in
set_option maxHeartbeats 16000000 in
set_option linter.unusedSimpArgs false in
theorem r18Count_ok (S T : Nat → Prop) (u v : Value) (p : Prof) (seats : Int) (lot : List Int) (w : World) (h : VProf S w u p) (hv : RInts T w v lot) (h0 : rankI p seats lot = 0) :
  Calls Tryz.prog 17 #[u, .int .i64 seats, v] w (GivesE 0 (greV p seats lot) w) := by
 have h1 := h
 obtain ⟨a, m, c, rfl⟩ := h.agg
 obtain ⟨a2, c2, rfl, -, -⟩ := RSl.shape hv
 obtain ⟨C, sn, hF⟩ := rankF h0
 obtain rfl := hF.seats
 have hll : lot.length = C := hF.lot.len
 have hc10 := hF.c10
 have hs1 := hF.s
 have hC10 : C ≤ 10 := hc10.2
 have hsn10 : sn ≤ 10 := by omega
 have hV : greV p sn lot = ⟨(greS p sn lot C).el, (greS p sn lot C).rounds, (greS p sn lot C).ties⟩ := by
  rw [rankI_seats h0, hF.cands]; simp only [Int.toNat_natCast]
 rw [hV]
 obtain ⟨W2, hW2⟩ : ∃ W2, W2 = (w.alloc (.cells #[.int .i64 p.cands, .int .u8 p.kind, .slice a m c] 24)).alloc (.cells #[.slice none 0 0, .slice none 0 0, .slice none 0 0] 32) := ⟨_, rfl⟩
 have hb0 : Below w.heap.size w W2 := by rw [hW2]; exact ((Below.refl _ _).alloc (Nat.le_refl _) _).alloc (by simp) _
 have hbo : W2.heap[w.heap.size + 1]? = some (.cells #[.slice none 0 0, .slice none 0 0, .slice none 0 0] 32 (0, 0)) := by
  have := box_new (w.alloc (.cells #[.int .i64 p.cands, .int .u8 p.kind, .slice a m c] 24)) (.cells #[.slice none 0 0, .slice none 0 0, .slice none 0 0] 32)
  rw [hW2]
  rwa [World.size_alloc] at this
 have hbp : W2.heap[w.heap.size]? = some (.cells #[.int .i64 p.cands, .int .u8 p.kind, .slice a m c] 24 (0, 0)) := by
  rw [hW2]; exact box_old _ (box_new w _)
 have hMay := r11May S T _ _ p 1 sn p.cands lot W2 (h1.same (.of_below hb0)) (hv.same (.of_below hb0))
 rw [show countI p 1 sn p.cands lot = 0 from h0] at hMay
 have hQu := fun W (hW : Below W2.heap.size W2 W) => r18Quota S _ p sn W (h1.same (.of_below (bt hb0 hW)))
 obtain ⟨hq1, hq2⟩ := quotaV_eq hF
 rw [hq1, hq2] at hQu
 have hdb := droop_bound hF.votes (s := (sn : Int)) (by omega)
 have hgq : greQ p sn = droop (markS p.rows) sn * 1000000000 := rfl
 have hQb := hF.q
 have hAl := fun W => r11All C W (by omega)
 have hRo := fun W (hW : Below W2.heap.size W2 W) => (h1.same (.of_below (bt hb0 hW))).rws
 have hml := RSl.len (hRo W2 (Below.refl _ _))
 have hm64 : m ≤ 64 := by have := hF.rows; omega
 have hLo := fun W (hW : Below W2.heap.size W2 W) => hv.same (.of_below (bt hb0 hW))
 have hHad := fun (W : World) (hW : Below W2.heap.size W2 W) (v1 v2 v3 : Value) (i : Nat) (h1' : RInts Any W v1 ((greS p sn lot i).st.map Prod.snd)) (h2' : RInts Any W v2 (greS p sn lot i).inn) (h3' : RInts Any W v3 (greS p sn lot i).el) =>
  r18Had S Any Any Any _ v1 v2 v3 p (greS p sn lot i).st (greS p sn lot i).inn (greS p sn lot i).el (greQ p sn) C W (h1.same (.of_below (bt hb0 hW))) hF.cands (by omega) h1' h2' h3' (greS_inv hF i).rows (hF.gval (greS_inv hF i)) (by omega) (fun r hr => by have := hF.many r hr; omega) hF.sum (greS_sq hF i).apart
 have hBn := gre_bnd hF
 have hWy := fun i (hi : (greS p sn lot i).el.length < sn) => gre_way hF (i := i) hi
 have hIn := greS_inv hF
 have hSq := greS_sq hF
 have hMk := fun (r : Row) (hr : r ∈ p.rows) => (hF.marks r hr).2
 have hEnd := fun i (hi : ¬ (greS p sn lot i).el.length < sn) => greS_end hF hi
 have hless : ∀ i, (greS p sn lot i).el.length < sn → (greS p sn lot (i + 1)).inn.length < (greS p sn lot i).inn.length := fun i hi => by
  rw [greS_step hF hi]; exact step_less hF.lot (hSq i) hi
 have h00 : (greS p sn lot 0).inn = rngI C ∧ (greS p sn lot 0).ties = [] ∧ (greS p sn lot 0).el = [] ∧ (greS p sn lot 0).rounds = [] ∧ (greS p sn lot 0).st = p.rows.map fun r => (r, 1000000000) := by
  have hC : p.cands.toNat = C := by rw [hF.cands, Int.toNat_natCast]
  unfold greS
  rw [hC]
  exact ⟨rfl, rfl, rfl, rfl, rfl⟩
 have hLot := hF.lot
 have hW8 : ∀ i, (greS p sn lot i).st.length = m := fun i => by rw [hml, ← (hIn i).rows, List.length_map]
 rw [hgq] at hQb hHad
 obtain ⟨q, hq⟩ : ∃ q, droop (markS p.rows) sn = q := ⟨_, rfl⟩
 obtain ⟨Q, hQ⟩ : ∃ Q, q * 1000000000 = Q := ⟨_, rfl⟩
 have hwQ : IntKind.i64.wrap (q * 1000000000) = Q := by rw [IntKind.wrap_i64, hQ]; rw [hq] at hdb; omega
 have hwy : ∀ i (_ : (greS p sn lot i).el.length < sn), ∃ e o, GreW p sn lot C i e o := hWy
 have hGQ : greQ p sn = Q := by rw [hgq, hq, hQ]
 rw [hq, hQ] at hHad hQb
 rw [hq] at hQu
 obtain ⟨kk, hkk⟩ : ∃ x, p.kind = x := ⟨_, rfl⟩
 rw [hF.cands, hkk] at hW2 hbp
 have hMay2 := hMay
 have hQu2 := hQu
 have hHad2 := hHad
 simp only [hF.cands, hkk, hll] at hMay2 hQu2 hHad2 hLo ⊢
 rw [hW2] at hMay2
 have HM := Lib.hid hMay2; have HQu := Lib.hid hQu2; have HAl := Lib.hid hAl; have HRo := Lib.hid hRo; have HLo := Lib.hid hLo; have HHad := Lib.hid hHad2; have HBn := Lib.hid hBn; have HWy := Lib.hid hwy; have HIn := Lib.hid hIn; have HSq := Lib.hid hSq; have HMk := Lib.hid hMk; have HEnd := Lib.hid hEnd; have HLess := Lib.hid hless; have H00 := Lib.hid h00; have HLot := Lib.hid hLot; have HW8 := Lib.hid hW8; have HGQ := Lib.hid hGQ; have HQb := Lib.hid hQb; have HW2 := Lib.hid hW2; have Hb0 := Lib.hid hb0; have Hbo := Lib.hid hbo; have Hbp := Lib.hid hbp; have Hml := Lib.hid hml; have HF := Lib.hid hF; have Hll := Lib.hid hll
 clear hMay hMay2 hQu hQu2 hAl hRo hLo hHad hHad2 hBn hwy hWy hIn hSq hMk hEnd hless h00 hLot hW8 hGQ hQb hW2 hb0 hbo hbp hml hF hll hgq hq hQ hdb hq1 hq2 hV h h1 hv h0 hkk hc10
 have hmk := run_make_row' (P := Tryz.prog) 25 3 (.int .i64 0) 8 Tryz.underlying25 Tryz.infoInt rfl .i64 .i64 m (by omega) (by omega)
 go_enter Tryz.func17, Tryz.ntmps17
 go_upto_region 6 with (first
  | (go_at_call 64; refine HM.out.mono ?_; rintro e w3 ⟨rfl, hb⟩; rw [← HW2.out] at hb; have q3 := Lib.hid hb; obtain ⟨pa, pb, pc, pl⟩ := box3 Hbp.out hb; clear hb)
  | (go_at_call 19; refine (HQu.out _ q3.out).mono ?_; rintro e w4 ⟨rfl, hb⟩; have q4 := Lib.hid (bt q3.out hb); clear hb pa pb pc pl; obtain ⟨pa, pb, pc, pl⟩ := box3 Hbp.out q4.out))
 go_wp2
 clear hmk pa pb pc pl
 have hmade : Arr .i64 (w4.alloc (.cells (madeCells #[.int .i64 0] m) 3)) w4.heap.size 3 (fl m fun x => if x < 0 then (1000000000 : Int) else 0) := by
  have := Arr.madeN (k := .i64) w4 m 3
  rw [← fl_zero] at this
  simpa using this
 have HM0 := Lib.hid hmade
 clear hmade
 go_loopw [13] (fun i wr => ∃ k : Nat, k ≤ m ∧ i = .int .i64 k ∧ Hid (Arr .i64 wr w4.heap.size 3 (fl m fun x => if x < k then (1000000000 : Int) else 0)) ∧ Hid (Below w4.heap.size w4 wr)) (fun i _ => m - (intOf i).toNat)
 case atStart => exact ⟨0, Nat.zero_le _, rfl, HM0, Lib.hid (below_new w4 _)⟩
 case round =>
  clear HM0
  obtain ⟨k, hk, rfl, hA, hbr⟩ := hrel
  by_cases hlt : k < m
  ·have hst : (fl m fun x => if x < k + 1 then (1000000000 : Int) else 0) = (fl m fun x => if x < k then (1000000000 : Int) else 0).set k 1000000000 := by
    rw [fl_set]
    refine fl_congr fun x _ => ?_
    by_cases e : x = k
    ·subst e; rw [if_pos (by omega), if_pos rfl]
    ·rw [if_neg e]
     by_cases e2 : x < k
     ·rw [if_pos (by omega), if_pos e2]
     ·rw [if_neg (by omega), if_neg e2]
   have hfz := hA.out.frozen k
   have hlA := hA.out.lt
   have hAc := hA.out.cell (i := k) (by rw [fl_length]; exact hlt)
   rw [fl_get, if_neg (by omega)] at hAc
   have Hst := Lib.hid hst
   clear hst
   go_wp2
   exact ⟨⟨k + 1, by omega, by go_num, Lib.hid (by rw [Hst.out]; exact Arr.set hA.out _ _), Lib.hid (hbr.out.setCell (p := ⟨w4.heap.size, k, none⟩) (Nat.le_refl _) _)⟩, by simp [intOf]; omega⟩
  ·have hkm : m = k := by omega
   subst hkm
   obtain ⟨w5, hw5⟩ : ∃ q, q = wr := ⟨_, rfl⟩
   rw [← hw5] at hA hbr ⊢
   have q5 := Lib.hid (bt q4.out hbr.out)
   have h45 := Lib.hid hbr.out.size
   have A5 := Lib.hid hA.out
   have hvs := fl_vals (rows := p.rows) Hml.out.symm
   have Hvs := Lib.hid hvs
   obtain ⟨pa, pb, pc, pl⟩ := box3 Hbp.out q5.out
   have hgv := Lib.hid hA.out.lt
   clear hA hbr hw5 hvs hk hlt
   go_wp2_with (go_at_call 52; refine (HAl.out _).mono ?_; rintro e w6 ⟨vl0, rfl, ho, hb⟩; have C6 := Lib.hid hb; have HO6 := Lib.hid ho; clear hb ho pa pb pc pl)
   obtain ⟨X5, hX5⟩ : ∃ X, X = w5.alloc (.cells #[.slice none 0 0, .slice none 0 0, .slice none 0 0] 32) := ⟨_, rfl⟩
   rw [← hX5] at C6 HO6
   have hb5 : Below w5.heap.size w5 X5 := by rw [hX5]; exact below_new _ _
   have g5 : X5.heap[w5.heap.size]? = some (.cells #[.slice none 0 0, .slice none 0 0, .slice none 0 0] 32 (0, 0)) := by rw [hX5]; exact box_new _ _
   have hz25 := q5.out.size
   have b56 := bt hb5 C6.out
   have hz24 := q4.out.size
   have S0 : Hid (RS (RCn.mk W2.heap.size w5.heap.size w4.heap.size []) w6 (.slice none 0 0) (.slice none 0 0) (.slice none 0 0) ((greS p sn lot 0).st.map Prod.snd) (greS p sn lot 0).el (greS p sn lot 0).rounds (greS p sn lot 0).ties) := Lib.hid (by
    rw [H00.out.2.1, H00.out.2.2.1, H00.out.2.2.2.1, H00.out.2.2.2.2, ← Hvs.out]
    exact ⟨keep_box C6.out g5, A5.out.below b56, Own.nil _ _ _ _ _, Own.nil _ _ _ _ _, Own.nil _ _ _ _ _, by simp [Value.ownBlock], ⟨hz25, hz24⟩, fun b hb => by cases hb⟩)
   have I0 : Hid (RInts ((RCn.mk W2.heap.size w5.heap.size w4.heap.size []).R w6 (.slice none 0 0) (.slice none 0 0) (.slice none 0 0)) w6 vl0 (greS p sn lot 0).inn) := Lib.hid (by
    rw [H00.out.1]
    refine Rk.ints (w := X5) (fun b hb => ?_) (Nat.le_trans hz25 hb5.size) HO6.out (by rw [rngI_length]; omega)
    simp only [RCn.M, List.nil_append, List.mem_cons, List.not_mem_nil, or_false, Option.some.injEq, Value.ownBlock] at hb
    rcases hb with rfl | rfl | e | e | e
    ·exact size_of_box g5
    ·exact Nat.lt_of_lt_of_le hgv.out hb5.size
    ·cases e
    ·cases e
    ·cases e)
   have Q6 := Lib.hid (bt q5.out b56)
   have Hsz := Lib.hid (And.intro hz24 (And.intro h45.out hz25))
   clear hb5 g5 b56 HO6 A5 C6 Hvs hX5 X5
   go_loopw [15] (fun vi wr => ∃ (i : Nat) (ve vrd vt : Value), Hid (RS (RCn.mk W2.heap.size w5.heap.size w4.heap.size []) wr ve vrd vt ((greS p sn lot i).st.map Prod.snd) (greS p sn lot i).el (greS p sn lot i).rounds (greS p sn lot i).ties) ∧ Hid (RInts ((RCn.mk W2.heap.size w5.heap.size w4.heap.size []).R wr ve vrd vt) wr vi (greS p sn lot i).inn) ∧ Hid (Below W2.heap.size W2 wr)) (fun vi _ => lenSl vi)
   case atStart => exact ⟨0, _, _, _, S0, I0, Q6⟩
   case round =>
    clear S0 I0
    obtain ⟨i, ve, vrd, vt, hS, hI, hb⟩ := hrel
    obtain ⟨wo, rfl⟩ : ∃ q : World, q = wr := ⟨_, rfl⟩
    obtain ⟨ae, ce, rfl⟩ := Own.shape hS.out.oe
    obtain ⟨ad, cd, rfl⟩ := Own.shape hS.out.ord
    obtain ⟨at_, ct, rfl⟩ := Own.shape hS.out.ot
    obtain ⟨ai, ci, rfl, -, -⟩ := RSl.shape hI.out
    obtain ⟨ne, hne⟩ : ∃ n, (greS p sn lot i).el.length = n := ⟨_, rfl⟩
    obtain ⟨nd, hnd⟩ : ∃ n, (greS p sn lot i).rounds.length = n := ⟨_, rfl⟩
    obtain ⟨nt, hnt⟩ : ∃ n, (greS p sn lot i).ties.length = n := ⟨_, rfl⟩
    obtain ⟨ni, hni⟩ : ∃ n, (greS p sn lot i).inn.length = n := ⟨_, rfl⟩
    have hsq := HSq.out i
    have hm1 := hsq.most
    have hm2 := hsq.rounds
    have hm3 := hsq.ties
    have hen := hsq.enough
    rw [hne] at hm1 hen
    rw [hni] at hm2 hm3 hen
    rw [hnd] at hm2
    rw [hnt] at hm3
    have hle := HLess.out i
    rw [hne, hni] at hle
    have hwy := HWy.out i
    rw [hne] at hwy
    have hend := HEnd.out i
    rw [hne] at hend
    simp only [hne, hnd, hnt] at hS hI
    rw [hni] at hI ⊢
    obtain ⟨d0, d1, d2, dl⟩ := box3 hS.out.bg (Below.refl _ wo)
    by_cases hlt : ne < sn
    ·obtain ⟨e, o, hw⟩ := hwy hlt
     have hle1 := hle hlt
     obtain ⟨hn1, hn2, hn3, hn4⟩ := HBn.out i
     have hiv := HIn.out i
     obtain ⟨H, hH⟩ : ∃ l, gHad p sn lot C i = l := ⟨_, rfl⟩
     obtain ⟨L, hL⟩ : ∃ l, gLost p sn lot C i = l := ⟨_, rfl⟩
     have hgH : greH C Q (greS p sn lot i).st (greS p sn lot i).inn (greS p sn lot i).el = H := by rw [← hH, gHad, HGQ.out]
     have hgL : greL C Q (markS p.rows) (greS p sn lot i).st (greS p sn lot i).inn (greS p sn lot i).el = L := by rw [← hL, gLost, HGQ.out]
     obtain ⟨w1_, w2_, w3_⟩ := hw
     rw [hH, hL] at w1_
     simp only [hH, HGQ.out] at w3_
     rw [hH] at hn1 hn2
     rw [hL] at hn3 hn4
     have hlv : ((greS p sn lot i).st.map Prod.snd).length = m := by rw [List.length_map]; exact HW8.out i
     have hv1 := Arr.all hS.out.va (S := Any) trivial (n := m) (cap := m) (fun x hx => by
      obtain ⟨y, hy, rfl⟩ := List.mem_map.1 hx
      have := hiv.val y hy
      exact WalkArith.wf_i64 (by omega)) (by rw [hlv]; omega) hlv.symm (Nat.le_refl _)
     have hHd := HHad.out wo hb.out _ _ _ i hv1 (RInts.mono (fun _ _ => trivial) hI.out) (Own.ints hS.out.oe (by rw [hne]; omega))
     rw [hgH, hgL] at hHd
     have HHd := Lib.hid hHd
     have hbr := hb.out
     obtain ⟨pa, pb, pc, pl⟩ := box3 Hbp.out hbr
     have W1_ := Lib.hid w1_; have W2_ := Lib.hid w2_; have W3_ := Lib.hid w3_; have Hsq := Lib.hid hsq; have Hiv := Lib.hid hiv; have Hn1 := Lib.hid hn1; have Hn2 := Lib.hid hn2; have HH := Lib.hid hH; have Hle1 := Lib.hid hle1; have Hbr := Lib.hid hbr; have Hne := Lib.hid hne; have Hnd := Lib.hid hnd; have Hnt := Lib.hid hnt; have Hni := Lib.hid hni
     clear w1_ w2_ w3_ hsq hiv hn1 hn2 hH hL hgH hgL hv1 hHd hwy hle hle1 hend hb hbr hne hnd hnt hni hlv
     go_upto_region 15 with (go_at_call 65; refine HHd.out.mono ?_; rintro e7 w7 ⟨rfl, hA, hb⟩; have A7 := Lib.hid hA; have B7 := Lib.hid hb; clear hA hb)
     have hwH : ∀ x ∈ H, (Lit.int .i64 x).wf = true := fun x hx => by
      obtain ⟨j, hj, rfl⟩ := List.getElem_of_mem hx
      have := Hn2.out j
      rw [gI_at hj] at this
      exact WalkArith.wf_i64 (by omega)
     have hHr := fun (W : World) (hA : Arr .i64 W (wo.heap.size + 1) 3 H) => Arr.all hA (S := Any) trivial (n := C) (cap := C) hwH (by rw [Hn1.out]; omega) Hn1.out.symm (Nat.le_refl _)
     have hT1 := fun (W : World) (hA : Arr .i64 W (wo.heap.size + 1) 3 H) => r18Told Any _ H W (hHr W hA) (by rw [Hn1.out]; omega) (fun x hx => by
      obtain ⟨j, hj, rfl⟩ := List.getElem_of_mem hx
      have := Hn2.out j
      rw [gI_at hj] at this
      exact this)
     have hT2 := fun (W : World) => r18Told Any (.slice (some ⟨W.heap.size, 0, none⟩) 1 1) [L] (W.alloc (.cells #[.int .i64 L] 3)) (litInts (xs := [L]) (box_new W (.cells #[.int .i64 L] 3)) (by intro x hx; rw [List.mem_singleton.1 hx]; exact WalkArith.wf_i64 (by omega)) (by simp)) (by simp) (by intro x hx; rw [List.mem_singleton.1 hx]; exact ⟨hn3, hn4⟩)
     have HHr := Lib.hid hHr; have HT1 := Lib.hid hT1; have HT2 := Lib.hid hT2
     have st7 := Lib.hid True.intro
     clear hwH hHr hT1 hT2 pa pb pc pl d0 d1 d2 dl
     go_upto_region 16 with (first
      | (have := st8; go_at_call 66; clear st8; refine (HT2.out _).mono ?_; rintro e9 w9 ⟨v9, rfl, ho, hb⟩; obtain ⟨a9, c9, rfl⟩ := OwnX.shape ho; have B89 := Lib.hid (bt (below_new w8 (.cells #[.int .i64 L] 3)) hb); have O9 := Lib.hid ho; obtain ⟨b9, o9, u3, l3, m3, u4, l4, m4, e9', k0, k1, k2, r1, r2, hneg⟩ := ent_one (told_rd (L := (RCn.mk W2.heap.size w5.heap.size w4.heap.size []).M (.slice ae ne ce) (.slice ad nd cd) (.slice at_ nt ct)) (base := W2.heap.size) ho (by simp) (fun b hb => Nat.lt_of_lt_of_le (hS.out.low b hb).2 (bt (bt B7.out B8.out) (below_new w8 (.cells #[.int .i64 L] 3))).size) (Nat.le_trans Hbr.out.size (bt (bt B7.out B8.out) (below_new w8 (.cells #[.int .i64 L] 3))).size)) hn3; subst e9'; have R1 := Lib.hid r1; have R2 := Lib.hid r2; have Hneg := Lib.hid hneg; clear ho hb r1 r2 hneg this)
      | (have := st7; go_at_call 66; clear st7; refine (HT1.out _ A7.out).mono ?_; rintro e8 w8 ⟨v8, rfl, ho, hb⟩; obtain ⟨a8, c8, hv8⟩ := OwnX.shape ho; rw [List.length_map, Hn1.out] at hv8; subst hv8; have B8 := Lib.hid hb; have O8 := Lib.hid ho; clear ho hb this; have st8 := Lib.hid True.intro))
     obtain ⟨X9, hX9⟩ : ∃ W, W = w9.alloc (.cells #[.slice a8 C c8, .bool false, .slice u3 l3 m3, .slice u4 l4 m4, .slice none 0 0, .slice none 0 0] 58) := ⟨_, rfl⟩
     have hb9 : Below w9.heap.size w9 X9 := by rw [hX9]; exact below_new _ _
     have g9 : X9.heap[w9.heap.size]? = some (.cells #[.slice a8 C c8, .bool false, .slice u3 l3 m3, .slice u4 l4 m4, .slice none 0 0, .slice none 0 0] 58 (0, 0)) := by rw [hX9]; exact box_new _ _
     rw [← hX9]
     have hz9 : w9.heap.size < X9.heap.size := size_of_box g9
     have b79 := bt B8.out B89.out
     have br9 := bt B7.out (bt b79 hb9)
     have hgz : wo.heap.size ≤ w9.heap.size := (bt B7.out b79).size
     have hbase : W2.heap.size ≤ wo.heap.size := Hbr.out.size
     have hlow := hS.out.low
     have S9 : Hid (RS (RCn.mk W2.heap.size w5.heap.size w4.heap.size [some w9.heap.size]) X9 (.slice ae ne ce) (.slice ad nd cd) (.slice at_ nt ct) ((greS p sn lot i).st.map Prod.snd) (greS p sn lot i).el (greS p sn lot i).rounds (greS p sn lot i).ties) := Lib.hid (RS.side (X := []) (k := (RCn.mk W2.heap.size w5.heap.size w4.heap.size [])) hS.out br9 fun b hb => by
      simp only [List.mem_cons, List.not_mem_nil, or_false, Option.some.injEq] at hb
      subst hb
      exact ⟨hz9, .inr hgz⟩)
     have hnew : ∀ b, b < w9.heap.size → some b ∈ [some w9.heap.size] ++ (RCn.mk W2.heap.size w5.heap.size w4.heap.size []).M (.slice ae ne ce) (.slice ad nd cd) (.slice at_ nt ct) → some b ∈ [] ++ (RCn.mk W2.heap.size w5.heap.size w4.heap.size []).M (.slice ae ne ce) (.slice ad nd cd) (.slice at_ nt ct) := fun b hb hm => by
      rcases List.mem_append.1 hm with hm | hm
      ·simp only [List.mem_cons, List.not_mem_nil, or_false, Option.some.injEq] at hm
       omega
      ·exact hm
     have I9 : Hid (RInts ((RCn.mk W2.heap.size w5.heap.size w4.heap.size [some w9.heap.size]).R X9 (.slice ae ne ce) (.slice ad nd cd) (.slice at_ nt ct)) X9 (.slice ai ni ci) (greS p sn lot i).inn) := Lib.hid (rd_up hI.out (Keep.of_below (K := []) br9) (fun _ h => by cases h) (fun b hb => hnew b (Nat.lt_of_lt_of_le hb hgz)))
     have V9 : Hid (RRts ((RCn.mk W2.heap.size w5.heap.size w4.heap.size [some w9.heap.size]).R X9 (.slice ae ne ce) (.slice ad nd cd) (.slice at_ nt ct)) X9 (.slice a8 C c8) (H.map bill)) := Lib.hid (rt_up (told_rd (L := [] ++ (RCn.mk W2.heap.size w5.heap.size w4.heap.size []).M (.slice ae ne ce) (.slice ad nd cd) (.slice at_ nt ct)) (base := W2.heap.size) O8.out (by rw [List.length_map, Hn1.out]; omega) (fun b hb => Nat.lt_of_lt_of_le (hlow b hb).2 B7.out.size) (Nat.le_trans hbase B7.out.size)) (Keep.of_below (K := []) (bt B89.out hb9)) (fun _ h => by cases h) (fun b hb => hnew b (Nat.lt_of_lt_of_le hb B89.out.size)))
     have R19 : Hid (RU ((RCn.mk W2.heap.size w5.heap.size w4.heap.size [some w9.heap.size]).R X9 (.slice ae ne ce) (.slice ad nd cd) (.slice at_ nt ct)) X9 (.slice u3 l3 m3) (bill L).num) := Lib.hid (ru_up R1.out (Keep.of_below (K := []) hb9) (fun _ h => by cases h) hnew)
     have R29 : Hid (RU ((RCn.mk W2.heap.size w5.heap.size w4.heap.size [some w9.heap.size]).R X9 (.slice ae ne ce) (.slice ad nd cd) (.slice at_ nt ct)) X9 (.slice u4 l4 m4) (bill L).den) := Lib.hid (ru_up R2.out (Keep.of_below (K := []) hb9) (fun _ h => by cases h) hnew)
     have A9 : Hid (Arr .i64 X9 (wo.heap.size + 1) 3 H) := Lib.hid (A7.out.below (bt b79 hb9))
     have hvE : ∀ b, some b ∈ (RCn.mk W2.heap.size w5.heap.size w4.heap.size []).M (.slice ae ne ce) (.slice ad nd cd) (.slice at_ nt ct) → b < wo.heap.size := fun b hb => (hlow b hb).2
     have hgh : wo.heap.size + 1 < w9.heap.size := Nat.lt_of_lt_of_le A7.out.lt b79.size
     have HvE := Lib.hid hvE; have Hgh := Lib.hid hgh; have Hgz := Lib.hid hgz; have Hz9 := Lib.hid hz9; have G9 := Lib.hid g9; have Br9 := Lib.hid br9; have Hbase := Lib.hid hbase
     have hAk := fun (W : World) (hW : Below X9.heap.size X9 W) => r11Alike _ Any _ (.slice (some ⟨wo.heap.size + 1, 0, none⟩) C C) (greS p sn lot i).inn H W (I9.out.same (.of_below hW)) (HHr.out W (A9.out.below hW)) (by rw [Hn1.out]; omega) (by rw [Hn1.out]; exact Hsq.out.rng)
     rw [alike_asc Hn1.out Hsq.out.asc Hsq.out.rng] at hAk
     have HAk := Lib.hid hAk
     clear hgh hb9 g9 hX9 b79 br9 hgz hbase hlow hnew hvE hAk hz9 R1 R2 B7 B8 B89 A7 O8 O9 hS hI k0 k1 k2
     obtain ⟨d0, d1, d2, dl⟩ := box3 S9.out.bg (Below.refl _ X9)
     have hbn : bestL (gI H) (greS p sn lot i).inn ≠ [] := bestL_ne (Hsq.out.ne (by rw [Hne.out]; exact hlt))
     obtain ⟨bl, hbl⟩ : ∃ n, (bestL (gI H) (greS p sn lot i).inn).length = n := ⟨_, rfl⟩
     have hbl0 : 0 < bl := by rw [← hbl]; exact List.length_pos_iff.2 hbn
     have hbl10 : bl ≤ 10 := by rw [← hbl]; exact Nat.le_trans (List.length_filter_le _ _) (by rw [Hni.out]; omega)
     have Hbn := Lib.hid hbn; have Hbl := Lib.hid hbl
     clear hbn hbl
     go_upto_if 95 with (go_at_call 67; refine (HAk.out _ (Below.refl _ X9)).mono ?_; rintro e10 w10 ⟨va, rfl, ho, hb⟩; obtain ⟨ab, cb, hvb⟩ := Own.shape ho; rw [Hbl.out] at hvb; subst hvb; have B10 := Lib.hid hb; have O10 := Lib.hid ho; clear ho hb d0 d1 d2 dl; obtain ⟨d0, d1, d2, dl⟩ := box3 S9.out.bg B10.out)
     have hB2 : ∀ W, Keep ([some w9.heap.size] ++ (RCn.mk W2.heap.size w5.heap.size w4.heap.size []).M (.slice ae ne ce) (.slice ad nd cd) (.slice at_ nt ct)) X9 W → Below W2.heap.size W2 W := fun W hk => bt Hbr.out (bt Br9.out (Below.refl _ X9)) |>.trans (Keep.below hk (fun b hb hm => by
      rcases List.mem_append.1 hm with hm | hm
      ·simp only [List.mem_cons, List.not_mem_nil, or_false, Option.some.injEq] at hm
       have := Hgz.out; have := Hbase.out; omega
      ·have := (S9.out.low b hm).1
       have hb' : b < W2.heap.size := hb
       have : W2.heap.size ≤ b := this
       omega) (Nat.le_trans Hbase.out Br9.out.size))
     have HB2 := Lib.hid hB2
     clear hB2
     clear d0 d1 d2 dl
     generalize hb95 : decide ((ni : Int) ≤ (sn : Int) - (ne : Int)) = b95
     have H95 := Lib.hid hb95
     clear hb95
     go_cut [15, 20, 21, 22, 23, 24, 25, 26, 27] from 96 to 194 (fun vi' _ _ _ _ _ _ _ _ wc => ∃ vt' v1 v2, Hid (RS (RCn.mk W2.heap.size w5.heap.size w4.heap.size [some w9.heap.size]) wc (.slice ae ne ce) (.slice ad nd cd) vt' ((greS p sn lot (i + 1)).st.map Prod.snd) (greS p sn lot i).el (greS p sn lot i).rounds (greS p sn lot (i + 1)).ties) ∧ Hid (wc.heap[w9.heap.size]? = some (.cells #[.slice a8 C c8, .bool false, .slice u3 l3 m3, .slice u4 l4 m4, v1, v2] 58 (0, 0))) ∧
       Hid (RInts ((RCn.mk W2.heap.size w5.heap.size w4.heap.size [some w9.heap.size]).R wc (.slice ae ne ce) (.slice ad nd cd) vt') wc v1 e) ∧ Hid (RInts ((RCn.mk W2.heap.size w5.heap.size w4.heap.size [some w9.heap.size]).R wc (.slice ae ne ce) (.slice ad nd cd) vt') wc v2 o) ∧ Hid (RInts ((RCn.mk W2.heap.size w5.heap.size w4.heap.size [some w9.heap.size]).R wc (.slice ae ne ce) (.slice ad nd cd) vt') wc vi' (greS p sn lot (i + 1)).inn) ∧ Hid (Keep ([some w9.heap.size] ++ (RCn.mk W2.heap.size w5.heap.size w4.heap.size []).M (.slice ae ne ce) (.slice ad nd cd) (.slice at_ nt ct)) X9 wc) ∧ Hid (Mv X9 (.slice at_ nt ct) vt'))
     case first =>
      have hgrM : ∀ (W : World) (vt2 : Value) (ts : List Tie) (S : Nat → Prop) (cs : Array Value), Own W2.heap.size 115 2 (dTie S) W vt2 ts → W.heap[w9.heap.size]? = some (.cells cs 58 (0, 0)) → some w9.heap.size ∉ (RCn.mk W2.heap.size w5.heap.size w4.heap.size []).M (.slice ae ne ce) (.slice ad nd cd) vt2 := fun W vt2 ts S cs ho hg hm => by
       have hv := own_nbox ho hg (by decide)
       have hz := Hgz.out
       have h1 := fun (h : some w9.heap.size ∈ (RCn.mk W2.heap.size w5.heap.size w4.heap.size []).M (.slice ae ne ce) (.slice ad nd cd) (.slice at_ nt ct)) => HvE.out _ h
       simp only [RCn.M, List.mem_cons, List.not_mem_nil, or_false] at hm h1
       rcases hm with h | h | h | h | h
       ·have := h1 (.inl h); omega
       ·have := h1 (.inr (.inl h)); omega
       ·have := h1 (.inr (.inr (.inl h))); omega
       ·have := h1 (.inr (.inr (.inr (.inl h)))); omega
       ·exact hv h.symm
      have hghM : some (wo.heap.size + 1) ∉ ([some w9.heap.size] ++ (RCn.mk W2.heap.size w5.heap.size w4.heap.size []).M (.slice ae ne ce) (.slice ad nd cd) (.slice at_ nt ct)) := fun hm => by
       rcases List.mem_append.1 hm with h | h
       ·simp only [List.mem_cons, List.not_mem_nil, or_false, Option.some.injEq] at h
        have := Hgh.out; omega
       ·have := HvE.out _ h; omega
      have hA : ∀ W, Keep ([some w9.heap.size] ++ (RCn.mk W2.heap.size w5.heap.size w4.heap.size []).M (.slice ae ne ce) (.slice ad nd cd) (.slice at_ nt ct)) X9 W → Arr .i64 W (wo.heap.size + 1) 3 H := fun W hk => hk.box A9.out hghM
      have HgrM := Lib.hid hgrM; have HA := Lib.hid hA
      clear hgrM hghM hA
      rcases W3_.out with ⟨f1, f2, f3, f4, f5, f6⟩ | ⟨f1, f2, f3, f4, f5, f6, f7⟩ | ⟨f1, f2, f3, f4, f5, f6, f7⟩
      ·rw [Hni.out, Hne.out] at f1
       obtain rfl : true = b95 := by rw [← H95.out]; exact (decide_eq_true (by omega)).symm
       have F5 := Lib.hid f5; have F6 := Lib.hid f6; have F4 := Lib.hid f4; have F3 := Lib.hid f3; have F2 := Lib.hid f2
       have hS10 := RS.side (X := [some w9.heap.size]) (Y := [some w9.heap.size, none]) (k := (RCn.mk W2.heap.size w5.heap.size w4.heap.size [])) S9.out B10.out (fun b hb => by
        simp only [List.mem_cons, List.not_mem_nil, or_false, Option.some.injEq, reduceCtorEq] at hb
        subst hb
        exact ⟨Nat.lt_of_lt_of_le Hz9.out B10.out.size, .inl (by simp)⟩)
       have hI10 := rd_up I9.out (Keep.of_below (K := []) B10.out) (fun _ h => by cases h) (L' := [some w9.heap.size, none] ++ (RCn.mk W2.heap.size w5.heap.size w4.heap.size []).M (.slice ae ne ce) (.slice ad nd cd) (.slice at_ nt ct)) (fun b hb hm => by
        rcases List.mem_append.1 hm with h | h
        ·exact List.mem_append_left _ (by simpa using h)
        ·exact List.mem_append_right _ h)
       have S10 := Lib.hid hS10; have I10 := Lib.hid hI10; have G10 := Lib.hid (keep_box B10.out G9.out)
       clear f1 f2 f3 f4 f5 f6 hS10 hI10
       go_wp2
       go_loopw [15, 20, 21] (fun vi _ _ wx => ∃ (j : Nat) (vt' we : Value), j ≤ ni ∧ Hid (RS (RCn.mk W2.heap.size w5.heap.size w4.heap.size [some w9.heap.size, we.ownBlock]) wx (.slice ae ne ce) (.slice ad nd cd) vt' ((greS p sn lot i).st.map Prod.snd) (greS p sn lot i).el (greS p sn lot i).rounds ((greS p sn lot i).ties ++ (fillS H lot (greS p sn lot i).inn j).ties)) ∧ Hid (wx.heap[w9.heap.size]? = some (.cells #[.slice a8 C c8, .bool false, .slice u3 l3 m3, .slice u4 l4 m4, we, .slice none 0 0] 58 (0, 0))) ∧
        Hid (Own X9.heap.size 3 1 (dInt .i64) wx we (fillS H lot (greS p sn lot i).inn j).elected) ∧ Hid (RInts ((RCn.mk W2.heap.size w5.heap.size w4.heap.size [some w9.heap.size, we.ownBlock]).R wx (.slice ae ne ce) (.slice ad nd cd) vt') wx vi (fillS H lot (greS p sn lot i).inn j).left) ∧ Hid (Keep ([some w9.heap.size] ++ (RCn.mk W2.heap.size w5.heap.size w4.heap.size []).M (.slice ae ne ce) (.slice ad nd cd) (.slice at_ nt ct)) X9 wx) ∧ Hid (Mv X9 (.slice at_ nt ct) vt')) (fun vi _ _ _ => lenSl vi)
       case atStart => exact ⟨0, .slice at_ nt ct, .slice none 0 0, Nat.zero_le _, Lib.hid (by have := S10.out; rw [← List.append_nil (greS p sn lot i).ties] at this; exact this), G10, Lib.hid (Own.nil _ _ _ _ _), Lib.hid (by have := I10.out; exact this), Lib.hid (Keep.of_below B10.out), Lib.hid (Mv.same _ _)⟩
       case round =>
        clear S10 I10 G10
        obtain ⟨j, vt', we, hj, hSj, hGj, hOj, hIj, hKj, hMj⟩ := hrel
        obtain ⟨wj, rfl⟩ : ∃ q : World, q = wr := ⟨_, rfl⟩
        obtain ⟨av, cv, rfl⟩ := Own.shape hSj.out.ot
        obtain ⟨aw, cw, rfl⟩ := Own.shape hOj.out
        obtain ⟨al, cl, rfl, -, -⟩ := RSl.shape hIj.out
        obtain ⟨f1, f2, f3, f4, f5, f6⟩ := fill_facts (had := H) HLot.out Hsq.out.rng (asc_nodup Hsq.out.asc) j (by rw [Hni.out]; exact hj)
        obtain ⟨LL, hLL⟩ : ∃ l, (fillS H lot (greS p sn lot i).inn j).left = l := ⟨_, rfl⟩
        obtain ⟨EE, hEE⟩ : ∃ l, (fillS H lot (greS p sn lot i).inn j).elected = l := ⟨_, rfl⟩
        obtain ⟨FF, hFF⟩ : ∃ l, (fillS H lot (greS p sn lot i).inn j).ties = l := ⟨_, rfl⟩
        obtain ⟨TT, hTT⟩ : ∃ l, (greS p sn lot i).ties ++ FF = l := ⟨_, rfl⟩
        obtain ⟨nl, hnl⟩ : ∃ n, LL.length = n := ⟨_, rfl⟩
        obtain ⟨nw, hnw⟩ : ∃ n, EE.length = n := ⟨_, rfl⟩
        obtain ⟨nT, hnT⟩ : ∃ n, TT.length = n := ⟨_, rfl⟩
        rw [hLL, Hni.out] at f5
        rw [hEE] at f4
        rw [hFF] at f6
        simp only [hLL, hEE, hFF, hTT, hnl, hnw, hnT] at hSj hGj hOj hIj hMj ⊢
        have hnT20 : nT ≤ 20 := by rw [← hnT, ← hTT, List.length_append, Hnt.out]; omega
        have hasc : LL.Pairwise (fun a b => a < b) := by rw [← hLL, f1]; exact Hsq.out.asc.filter _
        have hrng : ∀ x ∈ LL, 0 ≤ x ∧ x < (C : Int) := fun x hx => by
         rw [← hLL, f1] at hx
         exact Hsq.out.rng x (List.mem_filter.1 hx).1
        clear f1 f2 f3
        by_cases hjl : j < ni
        ·obtain ⟨a1, a2', a3, a4, a5, a6⟩ := fill_at (H := H) HLot.out Hsq.out.rng Hsq.out.asc (j := j) (show j < (greS p sn lot i).inn.length by rw [Hni.out]; exact hjl)
         obtain ⟨am, ham⟩ : ∃ l, bestL (gI H) LL = l := ⟨_, rfl⟩
         obtain ⟨x, hx⟩ : ∃ x, firstL lot am = x := ⟨_, rfl⟩
         have hstep : (fillS H lot (greS p sn lot i).inn (j + 1)).left = LL.filter (fun y => !(y == x)) ∧ (fillS H lot (greS p sn lot i).inn (j + 1)).elected = EE ++ [x] ∧ (greS p sn lot i).ties ++ (fillS H lot (greS p sn lot i).inn (j + 1)).ties = TT ++ tieL am x := by
          simp only [fillS, hLL, ham, hx, hFF, hEE]
          exact ⟨trivial, trivial, by rw [← hTT, List.append_assoc]⟩
         simp only [hLL, ham, hx] at a1 a2'
         have haml : am.length ≤ 1000000 := by rw [← ham]; exact Nat.le_trans (List.length_filter_le _ _) (by omega)
         have hwf : (Lit.int .i64 x).wf = true := WalkArith.wf_i64 (by omega)
         have hz9j : X9.heap.size ≤ wj.heap.size := hKj.out.size
         have hbj := HB2.out wj hKj.out
         have hAl := r11Alike _ Any (.slice al nl cl) (.slice (some ⟨wo.heap.size + 1, 0, none⟩) C C) LL H wj hIj.out (HHr.out wj (HA.out wj hKj.out)) (by rw [Hn1.out]; omega) (by rw [Hn1.out]; exact hrng)
         rw [alike_asc Hn1.out hasc hrng, ham] at hAl
         have hlenw := length_without (asc_nodup hasc) a1
         have hLj : ∀ b, some b ∈ [some w9.heap.size, (Value.slice aw nw cw).ownBlock] ++ (RCn.mk W2.heap.size w5.heap.size w4.heap.size []).M (.slice ae ne ce) (.slice ad nd cd) (.slice av nT cv) → b < wj.heap.size := fun b hb => by
          rcases List.mem_append.1 hb with h | h
          ·exact hSj.out.lx b h
          ·exact (hSj.out.low b h).2
         have hnl0 : 0 < nl := by omega
         have hnl10 : nl ≤ 10 := by omega
         have hnw10 : nw ≤ 10 := by rw [← hnw, f4]; omega
         have HAl := Lib.hid hAl; have Hstep := Lib.hid hstep; have Haml := Lib.hid haml; have HX := Lib.hid hx; have Hwf := Lib.hid hwf; have Hbj := Lib.hid hbj; have HLj := Lib.hid hLj; have Hlw := Lib.hid hlenw; have Hnl := Lib.hid hnl; have Hnw := Lib.hid hnw; have HnT := Lib.hid hnT
         clear f4 f5 f6 hAl hstep haml hx hwf hbj a1 a2' a3 a4 a5 a6 ham hasc hrng hLL hEE hFF hTT hlenw hLj hnl hnw hnT
         go_upto_region 20 with (go_at_call 67; refine HAl.out.mono ?_; rintro e1 w1 ⟨va, rfl, ho, hb⟩; have O1 := Lib.hid ho; have B1 := Lib.hid hb; clear ho hb)
         obtain ⟨ab1, cb1, rfl⟩ := Own.shape O1.out
         obtain ⟨na, hna⟩ : ∃ n, am.length = n := ⟨_, rfl⟩
         rw [hna] at O1 ⊢
         have S1 := Lib.hid (hSj.out.below B1.out)
         have hFi := r11First T Any _ (.slice ab1 na cb1) lot am w1 (HLo.out w1 (bt Hbj.out B1.out)) (Own.ints O1.out Haml.out)
         rw [HX.out] at hFi
         have hAm := Rk.ints (M := [some w9.heap.size, (Value.slice aw nw cw).ownBlock] ++ (RCn.mk W2.heap.size w5.heap.size w4.heap.size []).M (.slice ae ne ce) (.slice ad nd cd) (.slice av nT cv)) (base := W2.heap.size) HLj.out (by have := Hbj.out.size; exact this) O1.out Haml.out
         have hTi := r11TiedG W2.heap.size _ (.slice av nT cv) (.slice ab1 na cb1) TT am x w1 S1.out.ot (fun b hb e => hb.2.2 (List.mem_append_right _ (by simp [RCn.M, e]))) hAm Hwf.out (by have := (bt Hbj.out B1.out).size; exact this) (by rw [HnT.out]; omega)
         obtain ⟨nt3, hnt3⟩ : ∃ n, (TT ++ tieL am x).length = n := ⟨_, rfl⟩
         have HFi := Lib.hid hFi; have HTi := Lib.hid hTi; have Hnt3 := Lib.hid hnt3; have Hna := Lib.hid hna
         clear hFi hTi hAm hna hnt3
         obtain ⟨d0, d1, d2, dl⟩ := box3 S1.out.bg (Below.refl _ w1)
         go_upto_region 22 with (first
          | (go_at_call 54; refine HFi.out.mono ?_; rintro e2 w2' ⟨rfl, rfl⟩)
          | (go_at_call 55; refine HTi.out.mono ?_; rintro e2 w2 ⟨vt2, rfl, k2, k3, k4, k5⟩; obtain ⟨at2, ct2, hv2⟩ := Own.shape k2; rw [Hnt3.out] at hv2; subst hv2; have hb2 := RS.gr S1.out (o := (Value.slice av nT cv).ownBlock) (t := 115) (by simp [RCn.L]) (by decide) k4; obtain ⟨-, zz, ff⟩ := own_box (Below.refl _ w2) (size_of_box hb2) hb2; have z2 := zz 2; have f2 := ff 2; have K2 := Lib.hid k2; have K4 := Lib.hid k4; have K5 := Lib.hid k5; clear k2 k3 k4 k5 hb2 zz ff))
         obtain ⟨w3, hw3⟩ : ∃ W, W = w2.setCell ⟨w5.heap.size, 2, none⟩ (.slice at2 nt3 ct2) := ⟨_, rfl⟩
         have hm2 : Mv w1 (.slice av nT cv) (.slice at2 nt3 ct2) := K5.out
         obtain ⟨hS3, hK3⟩ := RS.tie S1.out K2.out K4.out hm2
         have S3 : Hid (RS (RCn.mk W2.heap.size w5.heap.size w4.heap.size [some w9.heap.size, (Value.slice aw nw cw).ownBlock]) w3 (.slice ae ne ce) (.slice ad nd cd) (.slice at2 nt3 ct2) ((greS p sn lot i).st.map Prod.snd) (greS p sn lot i).el (greS p sn lot i).rounds (TT ++ tieL am x)) := Lib.hid (by rw [hw3]; exact hS3)
         have K13 : Keep [some w5.heap.size, (Value.slice av nT cv).ownBlock] w1 w3 := by rw [hw3]; exact hK3
         rw [← hw3]
         have hKM : ∀ b, some b ∈ [some w5.heap.size, (Value.slice av nT cv).ownBlock] → some b ∈ [some w9.heap.size, (Value.slice aw nw cw).ownBlock] ++ (RCn.mk W2.heap.size w5.heap.size w4.heap.size []).M (.slice ae ne ce) (.slice ad nd cd) (.slice av nT cv) := fun b hb => List.mem_append_right _ (by
          rcases List.mem_cons.1 hb with h | h
          ·rw [h]; simp [RCn.M]
          ·rw [List.mem_singleton.1 h]; simp [RCn.M])
         have hL3 : ∀ b, b < w1.heap.size → some b ∈ [some w9.heap.size, (Value.slice aw nw cw).ownBlock] ++ (RCn.mk W2.heap.size w5.heap.size w4.heap.size []).M (.slice ae ne ce) (.slice ad nd cd) (.slice at2 nt3 ct2) → some b ∈ [some w9.heap.size, (Value.slice aw nw cw).ownBlock] ++ (RCn.mk W2.heap.size w5.heap.size w4.heap.size []).M (.slice ae ne ce) (.slice ad nd cd) (.slice av nT cv) := fun b hb hm => (List.mem_append.1 hm).elim (fun h => List.mem_append_left _ h) fun h => List.mem_append_right _ (RCn.mv (k := (RCn.mk W2.heap.size w5.heap.size w4.heap.size [])) (Mv.same _ _) (Mv.same _ _) hm2 b hb h)
         have hgj : some w9.heap.size ∉ (RCn.mk W2.heap.size w5.heap.size w4.heap.size []).M (.slice ae ne ce) (.slice ad nd cd) (.slice av nT cv) := HgrM.out wj (.slice av nT cv) _ _ _ hSj.out.ot hGj.out
         have hIw := rd_up (rd_up hIj.out (Keep.of_below (K := []) B1.out) (fun _ h => by cases h) (fun _ _ h => h)) K13 hKM hL3
         have hg9 : w5.heap.size < X9.heap.size := size_of_box S9.out.bg
         have hwn : ∀ b, (Value.slice aw nw cw).ownBlock = some b → some b ∉ [some w5.heap.size, (Value.slice av nT cv).ownBlock] := fun b e hm => by
          rcases List.mem_cons.1 hm with h | h
          ·have := (Own.lt hOj.out b e).1
           simp only [Option.some.injEq] at h
           omega
          ·exact apart_types hOj.out hSj.out.ot (by decide) b e (List.mem_singleton.1 h).symm
         have hO3 := K13.own (S := fun _ => False) (dInt.stable _ _) (Own.below (S := fun _ => False) (dInt.stable _ _) hOj.out B1.out) hwn (fun _ h => h.elim)
         have hG3 := K13.box (keep_box B1.out hGj.out) (fun hm => hgj (by
          rcases List.mem_cons.1 hm with h | h
          ·rw [h]; simp [RCn.M]
          ·rw [List.mem_singleton.1 h]; simp [RCn.M]))
         have hKX : Keep ([some w9.heap.size] ++ (RCn.mk W2.heap.size w5.heap.size w4.heap.size []).M (.slice ae ne ce) (.slice ad nd cd) (.slice at_ nt ct)) X9 w3 := (hKj.out.then B1.out).trans K13 (fun b hb hm => by
          rcases List.mem_cons.1 hm with h | h
          ·rw [h]; exact List.mem_append_right _ (by simp [RCn.M])
          ·exact List.mem_append_right _ (by
            have := hMj.out.of hb (List.mem_singleton.1 h)
            rw [this]; simp [RCn.M]))
         have hMX : Mv X9 (.slice at_ nt ct) (.slice at2 nt3 ct2) := by
          rcases hm2 with h | ⟨b, h, hz⟩
          ·rcases hMj.out with h1 | ⟨b, h1, hz1⟩
           ·exact .inl (h.trans h1)
           ·exact .inr ⟨b, h.trans h1, hz1⟩
          ·exact .inr ⟨b, h, Nat.le_trans (hKj.out.then B1.out).size hz⟩
         have hWi := r11Without _ (.slice al nl cl) LL x w3 hIw (by rw [Hnl.out]; omega)
         have hL3s : ∀ b, some b ∈ [some w9.heap.size, (Value.slice aw nw cw).ownBlock] ++ (RCn.mk W2.heap.size w5.heap.size w4.heap.size []).M (.slice ae ne ce) (.slice ad nd cd) (.slice at2 nt3 ct2) → b < w3.heap.size := fun b hb => by
          rcases List.mem_append.1 hb with h | h
          ·exact S3.out.lx b h
          ·exact (S3.out.low b h).2
         have HWi := Lib.hid hWi; have O3 := Lib.hid hO3; have G3 := Lib.hid hG3; have KX3 := Lib.hid hKX; have MX3 := Lib.hid hMX; have HL3s := Lib.hid hL3s
         have Hz3 := Lib.hid (Nat.le_trans hz9j (Nat.le_trans B1.out.size K13.size))
         clear hgj hIw hwn hO3 hG3 hKX hMX hWi hL3s hS3 hK3 hm2 K13 hKM hL3 hw3 d0 d1 d2 dl z2 f2 S1 O1 hSj hGj hOj hIj hKj hMj
         go_upto_region 23 with (go_at_call 56; refine HWi.out.mono ?_; rintro e4 w6 ⟨vl4, rfl, ho, hb⟩; have O6 := Lib.hid ho; have B6 := Lib.hid hb; clear ho hb)
         obtain ⟨al4, cl4, rfl⟩ := Own.shape O6.out
         obtain ⟨n4, hn4⟩ : ∃ n, (LL.filter fun y => !(y == x)).length = n := ⟨_, rfl⟩
         rw [hn4] at O6 ⊢
         have Hn4 := Lib.hid hn4
         clear hn4
         have S6 := Lib.hid (S3.out.below B6.out)
         have G6 := Lib.hid (keep_box B6.out G3.out)
         have Ow6 := Lib.hid (Own.below (S := fun _ => False) (dInt.stable _ _) O3.out B6.out)
         have I6 := Lib.hid (Rk.ints (base := W2.heap.size) HL3s.out (HB2.out w3 KX3.out).size O6.out (by rw [Hn4.out]; have := Hlw.out; rw [Hn4.out, Hnl.out] at this; omega))
         obtain ⟨-, zG, -⟩ := own_box (Below.refl _ w6) (size_of_box G6.out) G6.out
         have zG4 := zG 4
         have hzl := size_of_box G6.out
         have Hl6 : Hid (EE.length ≤ 1000000 ∧ X9.heap.size ≤ w6.heap.size) := Lib.hid ⟨by rw [Hnw.out]; omega, Nat.le_trans Hz3.out B6.out.size⟩
         clear zG
         go_wp2_with (at_builtin; go_must (refine wpList_appJ w6 Tryz.infoInt rfl rfl Tryz.underlying25 X9.heap.size Ow6.out rfl rfl Hwf.out Hl6.out.1 Hl6.out.2 ?_); intro a5 n5 c5 w7 ho hB hg hl; have O7 := Lib.hid ho; have Gr7 := Lib.hid hg; have At7 := Lib.hid hl; have hb7 := (Keep.of_grown hg).box G6.out (fun hm => own_nbox Ow6.out G6.out (by decide) (List.mem_singleton.1 hm).symm); obtain ⟨-, zz, ff⟩ := own_box (Below.refl _ w7) (size_of_box hb7) hb7; have z4 := zz 4; have f4 := ff 4; have G7 := Lib.hid hb7; clear ho hB hg hl hb7 zz ff)
         have hgr6 := HgrM.out w6 (.slice at2 nt3 ct2) _ _ _ S6.out.ot G6.out
         have hwe6 : ∀ b, (Value.slice aw nw cw).ownBlock = some b → some b ∉ (RCn.mk W2.heap.size w5.heap.size w4.heap.size []).M (.slice ae ne ce) (.slice ad nd cd) (.slice at2 nt3 ct2) := fun b e hm => by
          have hz1 := (Own.lt Ow6.out b e).1
          have h1 := fun (h : some b ∈ (RCn.mk W2.heap.size w5.heap.size w4.heap.size []).M (.slice ae ne ce) (.slice ad nd cd) (.slice at_ nt ct)) => HvE.out _ h
          have hz2 := Hgz.out
          have hz3 := Hz9.out
          have hva := apart_types Ow6.out S6.out.ot (by decide) b e
          simp only [RCn.M, List.mem_cons, List.not_mem_nil, or_false] at hm h1
          rcases hm with h | h | h | h | h
          ·have := h1 (.inl h); omega
          ·have := h1 (.inr (.inl h)); omega
          ·have := h1 (.inr (.inr (.inl h))); omega
          ·have := h1 (.inr (.inr (.inr (.inl h)))); omega
          ·exact hva h.symm
         have hK7 : Keep [some w9.heap.size, (Value.slice aw nw cw).ownBlock] w6 (w7.setCell ⟨w9.heap.size, 4, none⟩ (.slice a5 n5 c5)) := Keep.set (Keep.of_grown Gr7.out) _ _ _
         have hs7 : w6.heap.size ≤ (w7.setCell ⟨w9.heap.size, 4, none⟩ (.slice a5 n5 c5)).heap.size := hK7.size
         have hS7 := RS.asideY (k := (RCn.mk W2.heap.size w5.heap.size w4.heap.size [])) (X := [some w9.heap.size, (Value.slice aw nw cw).ownBlock]) (Y := [some w9.heap.size, (Value.slice a5 n5 c5).ownBlock]) S6.out hK7 (fun b hb => ⟨hb, by
          rcases List.mem_cons.1 hb with h | h
          ·rw [h]; exact hgr6
          ·exact hwe6 b (List.mem_singleton.1 h).symm⟩) (fun b hb => by
          rcases List.mem_cons.1 hb with h | h
          ·simp only [Option.some.injEq] at h
           subst h
           exact ⟨Nat.lt_of_lt_of_le hzl hs7, .inl (by simp)⟩
          ·have e := (List.mem_singleton.1 h).symm
           refine ⟨by have := (Own.lt O7.out b e).2; simpa using this, ?_⟩
           rcases At7.out with h1 | ⟨b1, h1, hz1⟩
           ·exact .inl (by rw [← e, h1]; simp)
           ·rw [h1] at e; cases e; exact .inr hz1)
         have hO7 := ((Keep.refl [some w9.heap.size] w7).setIn w9.heap.size 4 (.slice a5 n5 c5) (.inl (by simp))).own (S := fun _ => False) (dInt.stable _ _) O7.out (fun b hb hm => own_nbox O7.out G7.out (by decide) (hb.trans (List.mem_singleton.1 hm))) (fun _ h => h.elim)
         have hI7 := rd_up I6.out hK7 (L' := [some w9.heap.size, (Value.slice a5 n5 c5).ownBlock] ++ (RCn.mk W2.heap.size w5.heap.size w4.heap.size []).M (.slice ae ne ce) (.slice ad nd cd) (.slice at2 nt3 ct2)) (fun b hb => List.mem_append_left _ hb) (fun b hb hm => (List.mem_append.1 hm).elim (fun h => List.mem_append_left _ (by
          rcases List.mem_cons.1 h with h | h
          ·rw [h]; simp
          ·rcases At7.out with h1 | ⟨b1, h1, hz1⟩
           ·rw [List.mem_singleton.1 h, h1]; simp
           ·have e := (List.mem_singleton.1 h).symm
            rw [h1] at e; cases e; omega)) fun h => List.mem_append_right _ h)
         have hKX7 : Keep ([some w9.heap.size] ++ (RCn.mk W2.heap.size w5.heap.size w4.heap.size []).M (.slice ae ne ce) (.slice ad nd cd) (.slice at_ nt ct)) X9 (w7.setCell ⟨w9.heap.size, 4, none⟩ (.slice a5 n5 c5)) := (KX3.out.then B6.out).trans hK7 (fun b hb hm => by
          rcases List.mem_cons.1 hm with h | h
          ·rw [h]; exact List.mem_append_left _ (by simp)
          ·have := (Own.lt Ow6.out b (List.mem_singleton.1 h).symm).1; omega)
         refine ⟨⟨j + 1, .slice at2 nt3 ct2, .slice a5 n5 c5, by omega, Lib.hid (by rw [Hstep.out.2.2]; exact hS7), Lib.hid (by rw [heap_setCell_at G7.out]; rfl), Lib.hid (by rw [Hstep.out.2.1]; exact hO7), Lib.hid (by rw [Hstep.out.1]; exact hI7), Lib.hid hKX7, MX3⟩, ?_⟩
         have := Hlw.out
         rw [Hn4.out, Hnl.out] at this
         simp only [lenSl, List.getElem_toArray, List.getElem_cons_succ, List.getElem_cons_zero]
         simp [lenSl]
         omega
        ·have hjn : ni = j := by omega
         have hnl0 : nl = 0 := by omega
         have he1 : e = EE := by rw [F3.out, Hni.out, hjn]; exact hEE
         have he2 : (greS p sn lot (i + 1)).ties = TT := by rw [F6.out, Hni.out, hjn, hFF]; exact hTT
         have he3 : (greS p sn lot (i + 1)).inn = LL := by rw [F4.out, Hni.out, hjn]; exact hLL
         have hgr6 := HgrM.out wj (.slice av nT cv) _ _ _ hSj.out.ot hGj.out
         have hSJ := RS.side (X := [some w9.heap.size, (Value.slice aw nw cw).ownBlock]) (Y := [some w9.heap.size]) (k := (RCn.mk W2.heap.size w5.heap.size w4.heap.size [])) hSj.out (Below.refl _ _) (fun b hb => by
          have h := List.mem_singleton.1 hb
          simp only [Option.some.injEq] at h
          subst h
          exact ⟨size_of_box hGj.out, .inl (by simp)⟩)
         have hV1 : RInts ((RCn.mk W2.heap.size w5.heap.size w4.heap.size [some w9.heap.size]).R wj (.slice ae ne ce) (.slice ad nd cd) (.slice av nT cv)) wj (.slice aw nw cw) EE := RSl.mono (fun _ _ _ h => h) (fun b e => by
          have hl := Own.lt hOj.out b e
          refine ⟨(by have := (HB2.out X9 (Keep.refl _ _)).size; have : W2.heap.size ≤ b := by omega
                      exact this), hl.2, fun hm => ?_⟩
          have h1 := fun (h : some b ∈ (RCn.mk W2.heap.size w5.heap.size w4.heap.size []).M (.slice ae ne ce) (.slice ad nd cd) (.slice at_ nt ct)) => HvE.out _ h
          have hz2 := Hgz.out
          have hz3 := Hz9.out
          have hva := apart_types hOj.out hSj.out.ot (by decide) b e
          simp only [RCn.M, List.mem_append, List.mem_cons, List.not_mem_nil, or_false, Option.some.injEq] at hm h1
          rcases hm with h | h | h | h | h | h
          ·omega
          ·have := h1 (.inl h); omega
          ·have := h1 (.inr (.inl h)); omega
          ·have := h1 (.inr (.inr (.inl h))); omega
          ·have := h1 (.inr (.inr (.inr (.inl h)))); omega
          ·exact hva h.symm) (Own.rslo hOj.out (by omega))
         have hIJ := rd_up hIj.out (Keep.refl [] wj) (fun _ h => by cases h) (L' := [some w9.heap.size] ++ (RCn.mk W2.heap.size w5.heap.size w4.heap.size []).M (.slice ae ne ce) (.slice ad nd cd) (.slice av nT cv)) (fun b hb hm => (List.mem_append.1 hm).elim (fun h => List.mem_append_left _ (by rw [List.mem_singleton.1 h]; simp)) fun h => List.mem_append_right _ h)
         rw [← he1] at hV1
         rw [← he2, ← F5.out] at hSJ
         rw [← he3] at hIJ
         have HSJ := Lib.hid hSJ; have HV1 := Lib.hid hV1; have HIJ := Lib.hid hIJ; have Ho := Lib.hid F2.out
         subst hnl0
         clear hSJ hV1 hIJ hjn he1 he2 he3 hgr6 f4 f5 f6 hLL hEE hFF hTT hnl hnw hnT hasc hrng hSj hIj hOj hjl
         go_wp2
         go_meet
         exact ⟨_, _, _, HSJ, hGj, HV1, Lib.hid (by rw [Ho.out]; exact RSl.nil), HIJ, hKj, hMj⟩
      ·rw [Hni.out, Hne.out] at f1
       obtain rfl : false = b95 := by rw [← H95.out]; exact (decide_eq_false (by omega)).symm
       have hI10 := rd_up I9.out (Keep.of_below (K := []) B10.out) (fun _ h => by cases h) (fun _ _ h => h)
       have hS10 := S9.out.below B10.out
       have hG10 := keep_box B10.out G9.out
       have hA10 := HA.out w10 (Keep.of_below B10.out)
       have hbm : ∀ y ∈ bestL (gI H) (greS p sn lot i).inn, y ∈ (greS p sn lot i).inn := fun y hy => (bestL_mem.1 hy).1
       obtain ⟨zb, zo, zc, rfl, -, -, hzc, hzd⟩ := RSl.at1 (Own.rsl O10.out (by rw [Hbl.out]; omega)) 0 (by rw [Hbl.out]; exact hbl0)
       obtain ⟨rfl, -⟩ := hzd.open
       rw [Nat.add_zero] at hzc
       have hyb : (bestL (gI H) (greS p sn lot i).inn)[0]'(by rw [Hbl.out]; exact hbl0) ∈ bestL (gI H) (greS p sn lot i).inn := List.getElem_mem _
       obtain ⟨y0, hy0⟩ : ∃ y, (bestL (gI H) (greS p sn lot i).inn)[0]'(by rw [Hbl.out]; exact hbl0) = y := ⟨_, rfl⟩
       rw [hy0] at hzc hyb
       have hyr := Hsq.out.rng y0 (hbm y0 hyb)
       obtain ⟨yn, rfl⟩ : ∃ n : Nat, y0 = (n : Int) := ⟨y0.toNat, by omega⟩
       have hyC : yn < C := by omega
       have hyc := hA10.cell (i := yn) (by rw [Hn1.out]; exact hyC)
       rw [← gI_at (by rw [Hn1.out]; exact hyC)] at hyc
       obtain ⟨hy, hhy⟩ : ∃ z, gI H yn = z := ⟨_, rfl⟩
       rw [hhy] at hyc
       have hq0 : hy ≥ Q := by have := f4 _ hyb; omega
       obtain ⟨am, ham⟩ : ∃ l, bestL (gI H) (greS p sn lot i).inn = l := ⟨_, rfl⟩
       obtain ⟨x, hx⟩ : ∃ x, firstL lot am = x := ⟨_, rfl⟩
       have hxm := (Hsq.out.pick HLot.out (f := gI H) (Hsq.out.ne (by rw [Hne.out]; exact hlt))).1
       simp only [ham, hx] at f3 f5 f6 f7 hxm
       have hxq := f4 x (by rw [ham]; exact hxm)
       have hxi : x ∈ (greS p sn lot i).inn := by rw [← ham] at hxm; exact hbm x hxm
       have hxr := Hsq.out.rng x hxi
       obtain ⟨xn, rfl⟩ : ∃ n : Nat, x = (n : Int) := ⟨x.toNat, by omega⟩
       have hxC : xn < C := by omega
       obtain ⟨hn, hhn⟩ : ∃ z, gI H (xn : Int) = z := ⟨_, rfl⟩
       have hnb := Hn2.out xn
       rw [hhn] at hnb
       rw [hhn] at hxq f6
       have haml : am.length ≤ 1000000 := by rw [← ham]; exact Nat.le_trans (List.length_filter_le _ _) (by rw [Hni.out]; omega)
       have hwf : (Lit.int .i64 (xn : Int)).wf = true := WalkArith.wf_i64 (by omega)
       have O1 := O10
       rw [ham] at O1
       have B1 : Hid (Below w10.heap.size w10 w10) := Lib.hid (Below.refl _ _)
       obtain ⟨w1, hw1⟩ : ∃ q, q = w10 := ⟨_, rfl⟩
       have Haml := Lib.hid haml; have HX := Lib.hid hx; have Hwf := Lib.hid hwf; have F2 := Lib.hid f2; have F3 := Lib.hid f3; have F5 := Lib.hid f5; have F6 := Lib.hid f6; have F7 := Lib.hid f7; have Hxq := Lib.hid hxq; have Hnb := Lib.hid hnb; have Hhn := Lib.hid hhn
       have S10 := Lib.hid hS10; have I10 := Lib.hid hI10; have G10 := Lib.hid hG10; have HA10 := Lib.hid hA10
       clear f1 f2 f3 f4 f5 f6 f7 hx hxm hxq hxi hxr hhn hnb haml hwf hS10 hI10 hG10 hA10 hbm hyb hy0 hyr hhy hzd
       subst hw1
       have S1 := Lib.hid (S10.out.below B1.out)
       have hFi := r11First T Any _ (.slice (some ⟨zb, zo, none⟩) bl cb) lot am w1 (HLo.out w1 (HB2.out w1 (Keep.of_below B10.out))) (Own.ints O1.out Haml.out)
       rw [HX.out] at hFi
       have hLs : ∀ b, some b ∈ ([some w9.heap.size] ++ (RCn.mk W2.heap.size w5.heap.size w4.heap.size []).M (.slice ae ne ce) (.slice ad nd cd) (.slice at_ nt ct)) → b < X9.heap.size := fun b hb => by
        rcases List.mem_append.1 hb with h | h
        ·exact S9.out.lx b h
        ·exact (S9.out.low b h).2
       have hAm := Rk.ints (M := ([some w9.heap.size] ++ (RCn.mk W2.heap.size w5.heap.size w4.heap.size []).M (.slice ae ne ce) (.slice ad nd cd) (.slice at_ nt ct))) (base := W2.heap.size) hLs (HB2.out X9 (Keep.refl _ _)).size O1.out Haml.out
       have hTi := r11TiedG W2.heap.size _ (.slice at_ nt ct) (.slice (some ⟨zb, zo, none⟩) bl cb) (greS p sn lot i).ties am (xn : Int) w1 S1.out.ot (fun b hb e => hb.2.2 (List.mem_append_right _ (by simp [RCn.M, e]))) hAm Hwf.out (HB2.out w1 (Keep.of_below B10.out)).size (by rw [Hnt.out]; omega)
       obtain ⟨nt3, hnt3⟩ : ∃ n, ((greS p sn lot i).ties ++ tieL am (xn : Int)).length = n := ⟨_, rfl⟩
       have HFi := Lib.hid hFi; have HTi := Lib.hid hTi; have Hnt3 := Lib.hid hnt3
       clear hFi hTi hAm hnt3 hLs
       obtain ⟨d0, d1, d2, dl⟩ := box3 S1.out.bg (Below.refl _ w1)
       go_upto_region 27 with (first
        | (go_at_call 54; refine HFi.out.mono ?_; rintro e2 w2' ⟨rfl, rfl⟩)
        | (go_at_call 55; refine HTi.out.mono ?_; rintro e2 w2 ⟨vt2, rfl, k2, k3, k4, k5⟩; obtain ⟨at2, ct2, hv2⟩ := Own.shape k2; rw [Hnt3.out] at hv2; subst hv2; have hb2 := RS.gr S1.out (o := (Value.slice at_ nt ct).ownBlock) (t := 115) (by simp [RCn.L]) (by decide) k4; obtain ⟨-, zz, ff⟩ := own_box (Below.refl _ w2) (size_of_box hb2) hb2; have z2 := zz 2; have f2 := ff 2; have K2 := Lib.hid k2; have K4 := Lib.hid k4; have K5 := Lib.hid k5; clear k2 k3 k4 k5 hb2 zz ff))
       obtain ⟨w3, hw3⟩ : ∃ W, W = w2.setCell ⟨w5.heap.size, 2, none⟩ (.slice at2 nt3 ct2) := ⟨_, rfl⟩
       have hm2 : Mv w1 (.slice at_ nt ct) (.slice at2 nt3 ct2) := K5.out
       obtain ⟨hS3, hK3⟩ := RS.tie S1.out K2.out K4.out hm2
       have S3 : Hid (RS (RCn.mk W2.heap.size w5.heap.size w4.heap.size [some w9.heap.size]) w3 (.slice ae ne ce) (.slice ad nd cd) (.slice at2 nt3 ct2) ((greS p sn lot i).st.map Prod.snd) (greS p sn lot i).el (greS p sn lot i).rounds ((greS p sn lot i).ties ++ tieL am (xn : Int))) := Lib.hid (by rw [hw3]; exact hS3)
       have K13 : Keep [some w5.heap.size, (Value.slice at_ nt ct).ownBlock] w1 w3 := by rw [hw3]; exact hK3
       rw [← hw3]
       have hKM : ∀ b, some b ∈ [some w5.heap.size, (Value.slice at_ nt ct).ownBlock] → some b ∈ ([some w9.heap.size] ++ (RCn.mk W2.heap.size w5.heap.size w4.heap.size []).M (.slice ae ne ce) (.slice ad nd cd) (.slice at_ nt ct)) := fun b hb => List.mem_append_right _ (by
        rcases List.mem_cons.1 hb with h | h
        ·rw [h]; simp [RCn.M]
        ·rw [List.mem_singleton.1 h]; simp [RCn.M])
       have hL3 : ∀ b, b < w1.heap.size → some b ∈ [some w9.heap.size] ++ (RCn.mk W2.heap.size w5.heap.size w4.heap.size []).M (.slice ae ne ce) (.slice ad nd cd) (.slice at2 nt3 ct2) → some b ∈ ([some w9.heap.size] ++ (RCn.mk W2.heap.size w5.heap.size w4.heap.size []).M (.slice ae ne ce) (.slice ad nd cd) (.slice at_ nt ct)) := fun b hb hm => (List.mem_append.1 hm).elim (fun h => List.mem_append_left _ h) fun h => List.mem_append_right _ (RCn.mv (k := (RCn.mk W2.heap.size w5.heap.size w4.heap.size [])) (Mv.same _ _) (Mv.same _ _) hm2 b hb h)
       have hgj : some w9.heap.size ∉ (RCn.mk W2.heap.size w5.heap.size w4.heap.size []).M (.slice ae ne ce) (.slice ad nd cd) (.slice at_ nt ct) := HgrM.out w1 (.slice at_ nt ct) _ _ _ S10.out.ot G10.out
       have hI3 := rd_up (rd_up I10.out (Keep.of_below (K := []) B1.out) (fun _ h => by cases h) (fun _ _ h => h)) K13 hKM hL3
       have hG3 := K13.box (keep_box B1.out G10.out) (fun hm => hgj (by
        rcases List.mem_cons.1 hm with h | h
        ·rw [h]; simp [RCn.M]
        ·rw [List.mem_singleton.1 h]; simp [RCn.M]))
       have hKX : Keep ([some w9.heap.size] ++ (RCn.mk W2.heap.size w5.heap.size w4.heap.size []).M (.slice ae ne ce) (.slice ad nd cd) (.slice at_ nt ct)) X9 w3 := (Keep.of_below (bt B10.out B1.out)).trans K13 (fun b hb hm => hKM b hm)
       have hMX : Mv X9 (.slice at_ nt ct) (.slice at2 nt3 ct2) := by
        rcases hm2 with h | ⟨b, h, hz⟩
        ·exact .inl h
        ·exact .inr ⟨b, h, Nat.le_trans (bt B10.out B1.out).size hz⟩
       have hL3s : ∀ b, some b ∈ [some w9.heap.size] ++ (RCn.mk W2.heap.size w5.heap.size w4.heap.size []).M (.slice ae ne ce) (.slice ad nd cd) (.slice at2 nt3 ct2) → b < w3.heap.size := fun b hb => by
        rcases List.mem_append.1 hb with h | h
        ·exact S3.out.lx b h
        ·exact (S3.out.low b h).2
       have I3 := Lib.hid hI3; have G3 := Lib.hid hG3; have KX3 := Lib.hid hKX; have MX3 := Lib.hid hMX; have HL3s := Lib.hid hL3s
       clear hgj hI3 hG3 hKX hMX hL3s hS3 hK3 hm2 K13 hKM hL3 hw3 d0 d1 d2 dl z2 f2 S1 O1 S10 I10 G10
       have hQ1 := HQb.out
       have hnq := Hxq.out
       have hnb2 := Hnb.out
       go_wp2
       go_loopw [23, 24, 25] (fun ki _ _ wx => ∃ k : Nat, k ≤ m ∧ ki = .int .i64 k ∧ Hid (RS (RCn.mk W2.heap.size w5.heap.size w4.heap.size [some w9.heap.size]) wx (.slice ae ne ce) (.slice ad nd cd) (.slice at2 nt3 ct2) (valK (greS p sn lot i).inn Q (xn : Int) hn (greS p sn lot i).st k) (greS p sn lot i).el (greS p sn lot i).rounds ((greS p sn lot i).ties ++ tieL am (xn : Int))) ∧ Hid (Keep [some w4.heap.size] w3 wx)) (fun ki _ _ _ => m - (intOf ki).toNat)
       case atStart => exact ⟨0, Nat.zero_le _, rfl, Lib.hid (by rw [valK_zero]; exact S3.out), Lib.hid (Keep.refl _ _)⟩
       case round =>
        obtain ⟨k, hk, rfl, hSk, hKk⟩ := hrel
        obtain ⟨wk, rfl⟩ : ∃ q : World, q = wr := ⟨_, rfl⟩
        have hKX : Keep ([some w9.heap.size] ++ (RCn.mk W2.heap.size w5.heap.size w4.heap.size []).M (.slice ae ne ce) (.slice ad nd cd) (.slice at_ nt ct)) X9 wk := KX3.out.trans hKk.out (fun b hb hm => by rw [List.mem_singleton.1 hm]; exact List.mem_append_right _ (by simp [RCn.M]))
        have hb2k := HB2.out wk hKX
        have hIk := rd_up I3.out hKk.out (fun b hb => by rw [List.mem_singleton.1 hb]; exact List.mem_append_right _ (by simp [RCn.M])) (fun _ _ h => h)
        obtain ⟨pa, pb, pc, pl⟩ := box3 Hbp.out hb2k
        by_cases hkm : k < m
        ·have hlr : k < p.rows.length := by rw [← Hml.out]; exact hkm
         have hlv : k < (greS p sn lot i).st.length := by rw [HW8.out]; exact hkm
         have hrow : (greS p sn lot i).st[k].1 = p.rows[k] := by
          have h := Hiv.out.rows
          simp only [← h, List.getElem_map]
         obtain ⟨rb, roff, rc', rd, rfl, -, rbl, rcl, rdl, hxr⟩ := RSl.at2 (HRo.out wk hb2k) k hlr
         obtain ⟨mb, mc, rfl, rfl, hml7, -, hIr⟩ := hxr.open
         have hvv := Hiv.out.val _ (List.getElem_mem hlv)
         have hvc := hSk.out.va.cell (i := k) (by rw [valK_len]; exact hlv)
         rw [valK_get hlv] at hvc
         have hst := valK_step (inn := (greS p sn lot i).inn) (Q := Q) (x := (xn : Int)) (n := hn) hlv
         have hsm := valK_same (inn := (greS p sn lot i).inn) (Q := Q) (x := (xn : Int)) (n := hn) hlv
         rw [hrow] at hsm
         have hyx := (HA.out wk hKX).cell (i := xn) (by rw [Hn1.out]; exact hxC)
         rw [← gI_at (by rw [Hn1.out]; exact hxC), Hhn.out] at hyx
         have hNx := r18Next Any _ (.slice mb p.rows[k].marks.length mc) (.slice ai ni ci) p.rows[k].marks (greS p sn lot i).inn wk (RInts.mono (fun _ _ => trivial) hIr) hIk
         obtain ⟨ms, hms⟩ : ∃ l, p.rows[k].marks = l := ⟨_, rfl⟩
         obtain ⟨ml, hmll⟩ : ∃ l, ms.length = l := ⟨_, rfl⟩
         obtain ⟨vv, hvv2⟩ : ∃ l, (greS p sn lot i).st[k].2 = l := ⟨_, rfl⟩
         obtain ⟨nv, hnv⟩ : ∃ l, (nextI (greS p sn lot i).inn ms).getD (-1) = l := ⟨_, rfl⟩
         simp only [hms, hmll] at hNx rcl hml7
         rw [hnv] at hNx
         rw [hms] at hsm
         rw [hvv2] at hvv hvc
         by_cases hnx : nextI (greS p sn lot i).inn ms = some (xn : Int)
         ·have hb1 : (nv == (xn : Int)) = true := by rw [← hnv, hnx]; simp
          have hpz : passI vv hn Q = 0 := by unfold passI; rw [if_pos (by omega)]
          have hPa := fun W => r18Pass vv hn Q W
          rw [passV, if_pos hpz, hpz] at hPa
          rw [passG, if_pos (by rw [hrow, hms]; exact hnx), hvv2] at hst
          obtain ⟨nw_, hnw_⟩ : ∃ z, vv * (hn - Q) / hn = z := ⟨_, rfl⟩
          simp only [hnw_] at hPa hst
          have hS31 : ∀ W : World, Below wk.heap.size wk W → (fun W : World => W.cell? ⟨w4.heap.size, k, none⟩ = some (.int .i64 vv) ∧ W.cell? ⟨wo.heap.size + 1, xn, none⟩ = some (.int .i64 hn)) W := fun W hW => by
           have hs := Same.of_below (S := Any) hW
           exact ⟨hs.cell trivial hvc, hs.cell trivial hyx⟩
          have HNx := Lib.hid hNx; have HPa := Lib.hid hPa; have Hst := Lib.hid hst; have HS31 := Lib.hid hS31
          clear rdl
          clear hNx hPa hst hsm hS31 hms hmll hvv2 hnv hrow hlr hlv hxr hIr hnx hpz hnw_ hvv hIk
          go_upto_region 31 with (go_at_call 68; refine HNx.out.mono ?_; rintro e4 w4' ⟨rfl, rfl⟩)
          clear pa pb pc pl rcl hvc hyx
          refine wp_region_L (S := (fun W : World => W.cell? ⟨w4.heap.size, k, none⟩ = some (.int .i64 vv) ∧ W.cell? ⟨wo.heap.size + 1, xn, none⟩ = some (.int .i64 hn))) (L := []) (by kernel_rfl) (HS31.out _ (Below.drew (Below.refl _ wk))) (fun hHeld => ?_)
          refine tk 0 ?_ rfl hHeld ?_ ?_; rotate_left
          ·intro w hSw; (try dsimp only at hSw); go_simp; try (with_reducible rfl)
          (try simp only [la, lb, lc, ld, lf, lg, lh])
          refine tk 1 ?_ rfl hHeld ?_ ?_; rotate_left
          ·intro w hSw; (try dsimp only at hSw); go_simp; try (with_reducible rfl)
          (try simp only [la, lb, lc, ld, lf, lg, lh])
          refine tk 2 ?_ rfl hHeld ?_ ?_; rotate_left
          ·intro w hSw; (try dsimp only at hSw); go_simp; try (with_reducible rfl)
          (try simp only [la, lb, lc, ld, lf, lg, lh])
          refine tk 3 ?_ rfl hHeld ?_ ?_; rotate_left
          ·intro w hSw; (try dsimp only at hSw); go_simp; try (with_reducible rfl)
          (try simp only [la, lb, lc, ld, lf, lg, lh])
          refine tk 4 ?_ rfl hHeld ?_ ?_; rotate_left
          ·intro w hSw; (try dsimp only at hSw); go_simp; try (with_reducible rfl)
          (try simp only [la, lb, lc, ld, lf, lg, lh])
          refine tk 5 ?_ rfl hHeld ?_ ?_; rotate_left
          ·intro w hSw; (try dsimp only at hSw); go_simp; try (with_reducible rfl)
          (try simp only [la, lb, lc, ld, lf, lg, lh])
          refine tk 6 ?_ rfl hHeld ?_ ?_; rotate_left
          ·intro w hSw; (try dsimp only at hSw); go_simp; try (with_reducible rfl)
          (try simp only [la, lb, lc, ld, lf, lg, lh])
          refine tk 7 ?_ rfl hHeld ?_ ?_; rotate_left
          ·intro w hSw; (try dsimp only at hSw); go_simp; try (with_reducible rfl)
          (try simp only [la, lb, lc, ld, lf, lg, lh])
          refine tk 8 ?_ rfl hHeld ?_ ?_; rotate_left
          ·intro w hSw; (try dsimp only at hSw); go_simp; try (with_reducible rfl)
          (try simp only [la, lb, lc, ld, lf, lg, lh])
          refine wpAnyL_one (i := 9) (by kernel_rfl) rfl (fun K hK => ?_)
          (go_simp; go_at_call 21; refine (HPa.out _).mono ?_; rintro e6 w6 ⟨rfl, hb⟩; have B6 := Lib.hid (bt (Below.drew (Below.refl _ wk)) hb); clear hb)
          refine hK.out _ _ (HS31.out _ B6.out) (fun hHeld => ?_)
          clear hK K
          (try simp only [la, lb, lc, ld, lf, lg, lh])
          refine tk 10 ?_ rfl hHeld ?_ ?_; rotate_left
          ·intro w hSw; (try dsimp only at hSw); go_simp; try (with_reducible rfl)
          (try simp only [la, lb, lc, ld, lf, lg, lh])
          refine tk 11 ?_ rfl hHeld ?_ ?_; rotate_left
          ·intro w hSw; (try dsimp only at hSw); go_simp; try (with_reducible rfl)
          (try simp only [la, lb, lc, ld, lf, lg, lh])
          refine tk 12 ?_ rfl hHeld ?_ ?_; rotate_left
          ·intro w hSw; (try dsimp only at hSw); go_simp; try (with_reducible rfl)
          (try simp only [la, lb, lc, ld, lf, lg, lh])
          refine tk 13 ?_ rfl hHeld ?_ ?_; rotate_left
          ·intro w hSw; (try dsimp only at hSw); go_simp; try (with_reducible rfl)
          (try simp only [la, lb, lc, ld, lf, lg, lh])
          refine tk 14 ?_ rfl hHeld ?_ ?_; rotate_left
          ·intro w hSw; (try dsimp only at hSw); go_simp; try (with_reducible rfl)
          (try simp only [la, lb, lc, ld, lf, lg, lh])
          refine wpAnyL_done (by kernel_rfl) ?_ _
          have S6 := Lib.hid (hSk.out.below B6.out)
          have hfz := S6.out.va.frozen k
          have hlA := S6.out.va.lt
          have hvc := (HS31.out _ B6.out).1
          obtain ⟨hS7, hK7⟩ := RS.val S6.out k nw_
          have HS7 := Lib.hid hS7; have HK7 := Lib.hid hK7
          clear hS7 hK7
          go_wp2
          exact ⟨⟨k + 1, by omega, by go_num, Lib.hid (by rw [Hst.out]; exact HS7.out), Lib.hid ((hKk.out.then B6.out).trans HK7.out (fun b hb hm => hm))⟩, by simp [intOf]; omega⟩
         ·have hb1 : (nv == (xn : Int)) = false := by
           rw [← hnv]
           cases hq : nextI (greS p sn lot i).inn ms with
           | none => simp
           | some z => rw [hq] at hnx; simpa using fun e => hnx (by rw [e])
          have hsm2 := hsm hnx
          have HNx := Lib.hid hNx; have Hsm := Lib.hid hsm2
          clear rdl
          clear hNx hst hsm hsm2 hms hmll hvv2 hnv hrow hlr hlv hxr hIr hnx hvv hIk hvc hyx
          go_wp2_with (go_at_call 68; refine HNx.out.mono ?_; rintro e4 w4' ⟨rfl, rfl⟩)
          exact ⟨⟨k + 1, by omega, by go_num, Lib.hid (by rw [Hsm.out]; exact hSk.out), hKk⟩, by simp [intOf]; omega⟩
        ·have hkm2 : k = m := by omega
         subst hkm2
         have hGk := hKk.out.box G3.out (fun hm => HgrM.out w3 (.slice at2 nt3 ct2) _ _ _ S3.out.ot G3.out (by rw [List.mem_singleton.1 hm]; simp [RCn.M]))
         have hva : valK (greS p sn lot i).inn Q (xn : Int) hn (greS p sn lot i).st k = (greS p sn lot (i + 1)).st.map Prod.snd := by
          rw [← HW8.out i, valK_all, F6.out]
         rw [hva] at hSk
         have hLy : ∀ b, some b ∈ [some w9.heap.size] ++ (RCn.mk W2.heap.size w5.heap.size w4.heap.size []).M (.slice ae ne ce) (.slice ad nd cd) (.slice at2 nt3 ct2) → b < wk.heap.size := fun b hb => Nat.lt_of_lt_of_le (HL3s.out b hb) hKk.out.size
         have S3y := hSk; have I3y := Lib.hid hIk; have G3y := Lib.hid hGk; have KXy := Lib.hid hKX; have HLy := Lib.hid hLy
         obtain ⟨wy, hwy⟩ : ∃ q, q = wk := ⟨_, rfl⟩
         rw [← hwy] at S3y I3y G3y KXy HLy pa pb pc pl ⊢
         clear hIk hGk hKX hLy hb2k hva hSk hKk S3 I3 G3 KX3 HL3s hwy hk hkm
         have hWi := r11Without _ (.slice ai ni ci) (greS p sn lot i).inn (xn : Int) wy I3y.out (by rw [Hni.out]; omega)
         have HWi := Lib.hid hWi
         clear hWi
         go_upto_region 34 with (go_at_call 56; refine HWi.out.mono ?_; rintro e4 w6 ⟨vl4, rfl, ho, hb⟩; have O6 := Lib.hid ho; have B6 := Lib.hid hb; clear ho hb)
         obtain ⟨al4, cl4, rfl⟩ := Own.shape O6.out
         obtain ⟨n4, hn4⟩ : ∃ n, ((greS p sn lot i).inn.filter fun y => !(y == (xn : Int))).length = n := ⟨_, rfl⟩
         rw [hn4] at O6 ⊢
         have Hn4 := Lib.hid hn4
         have hn4b : n4 ≤ 10 := by rw [← hn4]; exact Nat.le_trans (List.length_filter_le _ _) (by rw [Hni.out]; omega)
         clear hn4
         have S6 := Lib.hid (S3y.out.below B6.out)
         have G6 := Lib.hid (keep_box B6.out G3y.out)
         have I6 := Lib.hid (Rk.ints (base := W2.heap.size) HLy.out (HB2.out wy KXy.out).size O6.out (by rw [Hn4.out]; omega))
         have hb7 := keep_box (below_new w6 (.cells #[.int .i64 (xn : Int)] 3)) G6.out
         obtain ⟨-, zz, ff⟩ := own_box (Below.refl _ _) (size_of_box hb7) hb7
         have zC := zz 4
         have fC := ff 4
         have hzl := size_of_box G6.out
         clear zz ff
         go_wp2
         have hK8 : Keep [some w9.heap.size] w6 ((w6.setCell ⟨w9.heap.size, 4, none⟩ (.slice (some ⟨w6.heap.size, 0, none⟩) 1 1)).alloc (.cells #[.int .i64 (xn : Int)] 3)) := ((Keep.refl [some w9.heap.size] w6).setIn _ _ _ (.inl (by simp))).then (below_new _ _)
         have hgr6 := HgrM.out w6 (.slice at2 nt3 ct2) _ _ _ S6.out.ot G6.out
         have hS8 := RS.aside (k := (RCn.mk W2.heap.size w5.heap.size w4.heap.size [some w9.heap.size])) S6.out hK8 (fun b hb => ⟨hb, by rw [List.mem_singleton.1 hb]; exact hgr6⟩)
         have hM6 : ∀ b, some b ∈ [some w9.heap.size] ++ (RCn.mk W2.heap.size w5.heap.size w4.heap.size []).M (.slice ae ne ce) (.slice ad nd cd) (.slice at2 nt3 ct2) → b < w6.heap.size := fun b hb => Nat.lt_of_lt_of_le (HLy.out b hb) B6.out.size
         have hV8 : RInts ((RCn.mk W2.heap.size w5.heap.size w4.heap.size [some w9.heap.size]).R ((w6.setCell ⟨w9.heap.size, 4, none⟩ (.slice (some ⟨w6.heap.size, 0, none⟩) 1 1)).alloc (.cells #[.int .i64 (xn : Int)] 3)) (.slice ae ne ce) (.slice ad nd cd) (.slice at2 nt3 ct2)) ((w6.setCell ⟨w9.heap.size, 4, none⟩ (.slice (some ⟨w6.heap.size, 0, none⟩) 1 1)).alloc (.cells #[.int .i64 (xn : Int)] 3)) (.slice (some ⟨w6.heap.size, 0, none⟩) 1 1) [(xn : Int)] := by
          have h1 : Arr .i64 ((w6.setCell ⟨w9.heap.size, 4, none⟩ (.slice (some ⟨w6.heap.size, 0, none⟩) 1 1)).alloc (.cells #[.int .i64 (xn : Int)] 3)) w6.heap.size 3 [(xn : Int)] := by
           have := box_new (w6.setCell ⟨w9.heap.size, 4, none⟩ (.slice (some ⟨w6.heap.size, 0, none⟩) 1 1)) (.cells #[.int .i64 (xn : Int)] 3)
           rwa [show (w6.setCell ⟨w9.heap.size, 4, none⟩ (.slice (some ⟨w6.heap.size, 0, none⟩) 1 1)).heap.size = w6.heap.size by simp] at this
          have h3 := Arr.all h1 (S := fun b => b = w6.heap.size) rfl (n := 1) (cap := 1) (fun y hy => by rw [List.mem_singleton.1 hy]; exact Hwf.out) (by simp) (by simp) (Nat.le_refl _)
          refine RInts.mono (fun b hb => ?_) h3
          subst hb
          exact ⟨by have := (HB2.out wy KXy.out).size; have := B6.out.size; show W2.heap.size ≤ w6.heap.size; omega, by simp, fun hm => Nat.lt_irrefl _ (hM6 _ hm)⟩
         have hI8 := rd_up I6.out hK8 (L' := [some w9.heap.size] ++ (RCn.mk W2.heap.size w5.heap.size w4.heap.size []).M (.slice ae ne ce) (.slice ad nd cd) (.slice at2 nt3 ct2)) (fun b hb => List.mem_append_left _ hb) (fun _ _ h => h)
         have hKX8 : Keep ([some w9.heap.size] ++ (RCn.mk W2.heap.size w5.heap.size w4.heap.size []).M (.slice ae ne ce) (.slice ad nd cd) (.slice at_ nt ct)) X9 ((w6.setCell ⟨w9.heap.size, 4, none⟩ (.slice (some ⟨w6.heap.size, 0, none⟩) 1 1)).alloc (.cells #[.int .i64 (xn : Int)] 3)) := (KXy.out.then B6.out).trans hK8 (fun b hb hm => by rw [List.mem_singleton.1 hm]; exact List.mem_append_left _ (by simp))
         rw [← F7.out] at hS8
         rw [← F5.out] at hI8
         go_meet
         exact ⟨_, _, _, Lib.hid hS8, Lib.hid (keep_box (below_new _ _) (by rw [heap_setCell_at G6.out]; rfl)), Lib.hid (by rw [F3.out]; exact hV8), Lib.hid (by rw [F2.out]; exact RSl.nil), Lib.hid hI8, Lib.hid hKX8, MX3⟩
      ·rw [Hni.out, Hne.out] at f1
       obtain rfl : false = b95 := by rw [← H95.out]; exact (decide_eq_false (by omega)).symm
       have hI10 := rd_up I9.out (Keep.of_below (K := []) B10.out) (fun _ h => by cases h) (fun _ _ h => h)
       have hS10 := S9.out.below B10.out
       have hG10 := keep_box B10.out G9.out
       have hA10 := HA.out w10 (Keep.of_below B10.out)
       have hbm : ∀ y ∈ bestL (gI H) (greS p sn lot i).inn, y ∈ (greS p sn lot i).inn := fun y hy => (bestL_mem.1 hy).1
       obtain ⟨zb, zo, zc, rfl, -, -, hzc, hzd⟩ := RSl.at1 (Own.rsl O10.out (by rw [Hbl.out]; omega)) 0 (by rw [Hbl.out]; exact hbl0)
       obtain ⟨rfl, -⟩ := hzd.open
       rw [Nat.add_zero] at hzc
       have hyb : (bestL (gI H) (greS p sn lot i).inn)[0]'(by rw [Hbl.out]; exact hbl0) ∈ bestL (gI H) (greS p sn lot i).inn := List.getElem_mem _
       obtain ⟨y0, hy0⟩ : ∃ y, (bestL (gI H) (greS p sn lot i).inn)[0]'(by rw [Hbl.out]; exact hbl0) = y := ⟨_, rfl⟩
       rw [hy0] at hzc hyb
       have hyr := Hsq.out.rng y0 (hbm y0 hyb)
       obtain ⟨yn, rfl⟩ : ∃ n : Nat, y0 = (n : Int) := ⟨y0.toNat, by omega⟩
       have hyC : yn < C := by omega
       have hyc := hA10.cell (i := yn) (by rw [Hn1.out]; exact hyC)
       rw [← gI_at (by rw [Hn1.out]; exact hyC)] at hyc
       obtain ⟨hy, hhy⟩ : ∃ z, gI H yn = z := ⟨_, rfl⟩
       rw [hhy] at hyc
       have hq0 : ¬ hy ≥ Q := by have := f4 _ (hbm _ hyb); omega
       obtain ⟨am, ham⟩ : ∃ l, bestL (fun y => - gI H y) (greS p sn lot i).inn = l := ⟨_, rfl⟩
       obtain ⟨x, hx⟩ : ∃ x, firstL lot.reverse am = x := ⟨_, rfl⟩
       obtain ⟨c1', c2', c3'⟩ := out_at (H := H) HLot.out Hsq.out.rng Hsq.out.asc (Hsq.out.ne (by rw [Hne.out]; exact hlt))
       simp only [ham, hx] at f3 f5 f7 c1' c2'
       have hxr := Hsq.out.rng x c1'
       have haml : am.length ≤ 1000000 := by rw [← ham]; exact Nat.le_trans (List.length_filter_le _ _) (by rw [Hni.out]; omega)
       have hwf : (Lit.int .i64 x).wf = true := WalkArith.wf_i64 (by omega)
       have hLe := r11Least _ Any (.slice ai ni ci) (.slice (some ⟨wo.heap.size + 1, 0, none⟩) C C) (greS p sn lot i).inn H w10 hI10 (HHr.out w10 hA10) (by rw [Hn1.out]; omega) (fun x hx => by
        obtain ⟨j, hj, rfl⟩ := List.getElem_of_mem hx
        have := Hn2.out j
        rw [gI_at hj] at this
        omega) (by rw [Hn1.out]; exact Hsq.out.rng)
       rw [alike_neg Hn1.out Hsq.out.asc Hsq.out.rng, ham] at hLe
       have HLe := Lib.hid hLe; have Haml := Lib.hid haml; have HX := Lib.hid hx; have Hwf := Lib.hid hwf; have F2 := Lib.hid f2; have F3 := Lib.hid f3; have F5 := Lib.hid f5; have F6 := Lib.hid f6; have F7 := Lib.hid f7
       have S10 := Lib.hid hS10; have I10 := Lib.hid hI10; have G10 := Lib.hid hG10
       clear f1 f2 f3 f4 f5 f6 f7 ham hx c1' c2' c3' hxr haml hwf hLe hS10 hI10 hG10 hbm hyb hy0 hyr hhy hzd
       go_upto_region 36 with (go_at_call 69; refine HLe.out.mono ?_; rintro e1 w1 ⟨va, rfl, ho, hb⟩; have O1 := Lib.hid ho; have B1 := Lib.hid hb; clear ho hb)
       obtain ⟨ab1, cb1, rfl⟩ := Own.shape O1.out
       obtain ⟨na, hna⟩ : ∃ n, am.length = n := ⟨_, rfl⟩
       rw [hna] at O1 ⊢
       have S1 := Lib.hid (S10.out.below B1.out)
       have hFi := r11Last T Any _ (.slice ab1 na cb1) lot am w1 (HLo.out w1 (bt (HB2.out w10 (Keep.of_below B10.out)) B1.out)) (Own.ints O1.out Haml.out) (by rw [Hll.out]; omega)
       rw [HX.out] at hFi
       have hLs : ∀ b, some b ∈ ([some w9.heap.size] ++ (RCn.mk W2.heap.size w5.heap.size w4.heap.size []).M (.slice ae ne ce) (.slice ad nd cd) (.slice at_ nt ct)) → b < w10.heap.size := fun b hb => by
        rcases List.mem_append.1 hb with h | h
        ·exact S10.out.lx b h
        ·exact (S10.out.low b h).2
       have hAm := Rk.ints (M := ([some w9.heap.size] ++ (RCn.mk W2.heap.size w5.heap.size w4.heap.size []).M (.slice ae ne ce) (.slice ad nd cd) (.slice at_ nt ct))) (base := W2.heap.size) hLs (HB2.out w10 (Keep.of_below B10.out)).size O1.out Haml.out
       have hTi := r11TiedG W2.heap.size _ (.slice at_ nt ct) (.slice ab1 na cb1) (greS p sn lot i).ties am x w1 S1.out.ot (fun b hb e => hb.2.2 (List.mem_append_right _ (by simp [RCn.M, e]))) hAm Hwf.out (bt (HB2.out w10 (Keep.of_below B10.out)) B1.out).size (by rw [Hnt.out]; omega)
       obtain ⟨nt3, hnt3⟩ : ∃ n, ((greS p sn lot i).ties ++ tieL am x).length = n := ⟨_, rfl⟩
       have HFi := Lib.hid hFi; have HTi := Lib.hid hTi; have Hnt3 := Lib.hid hnt3; have Hna := Lib.hid hna
       clear hFi hTi hAm hna hnt3 hLs
       obtain ⟨d0, d1, d2, dl⟩ := box3 S1.out.bg (Below.refl _ w1)
       go_upto_region 38 with (first
        | (go_at_call 57; refine HFi.out.mono ?_; rintro e2 w2' ⟨rfl, rfl⟩)
        | (go_at_call 55; refine HTi.out.mono ?_; rintro e2 w2 ⟨vt2, rfl, k2, k3, k4, k5⟩; obtain ⟨at2, ct2, hv2⟩ := Own.shape k2; rw [Hnt3.out] at hv2; subst hv2; have hb2 := RS.gr S1.out (o := (Value.slice at_ nt ct).ownBlock) (t := 115) (by simp [RCn.L]) (by decide) k4; obtain ⟨-, zz, ff⟩ := own_box (Below.refl _ w2) (size_of_box hb2) hb2; have z2 := zz 2; have f2 := ff 2; have K2 := Lib.hid k2; have K4 := Lib.hid k4; have K5 := Lib.hid k5; clear k2 k3 k4 k5 hb2 zz ff))
       obtain ⟨w3, hw3⟩ : ∃ W, W = w2.setCell ⟨w5.heap.size, 2, none⟩ (.slice at2 nt3 ct2) := ⟨_, rfl⟩
       have hm2 : Mv w1 (.slice at_ nt ct) (.slice at2 nt3 ct2) := K5.out
       obtain ⟨hS3, hK3⟩ := RS.tie S1.out K2.out K4.out hm2
       have S3 : Hid (RS (RCn.mk W2.heap.size w5.heap.size w4.heap.size [some w9.heap.size]) w3 (.slice ae ne ce) (.slice ad nd cd) (.slice at2 nt3 ct2) ((greS p sn lot i).st.map Prod.snd) (greS p sn lot i).el (greS p sn lot i).rounds ((greS p sn lot i).ties ++ tieL am x)) := Lib.hid (by rw [hw3]; exact hS3)
       have K13 : Keep [some w5.heap.size, (Value.slice at_ nt ct).ownBlock] w1 w3 := by rw [hw3]; exact hK3
       rw [← hw3]
       have hKM : ∀ b, some b ∈ [some w5.heap.size, (Value.slice at_ nt ct).ownBlock] → some b ∈ ([some w9.heap.size] ++ (RCn.mk W2.heap.size w5.heap.size w4.heap.size []).M (.slice ae ne ce) (.slice ad nd cd) (.slice at_ nt ct)) := fun b hb => List.mem_append_right _ (by
        rcases List.mem_cons.1 hb with h | h
        ·rw [h]; simp [RCn.M]
        ·rw [List.mem_singleton.1 h]; simp [RCn.M])
       have hL3 : ∀ b, b < w1.heap.size → some b ∈ [some w9.heap.size] ++ (RCn.mk W2.heap.size w5.heap.size w4.heap.size []).M (.slice ae ne ce) (.slice ad nd cd) (.slice at2 nt3 ct2) → some b ∈ ([some w9.heap.size] ++ (RCn.mk W2.heap.size w5.heap.size w4.heap.size []).M (.slice ae ne ce) (.slice ad nd cd) (.slice at_ nt ct)) := fun b hb hm => (List.mem_append.1 hm).elim (fun h => List.mem_append_left _ h) fun h => List.mem_append_right _ (RCn.mv (k := (RCn.mk W2.heap.size w5.heap.size w4.heap.size [])) (Mv.same _ _) (Mv.same _ _) hm2 b hb h)
       have hgj : some w9.heap.size ∉ (RCn.mk W2.heap.size w5.heap.size w4.heap.size []).M (.slice ae ne ce) (.slice ad nd cd) (.slice at_ nt ct) := HgrM.out w10 (.slice at_ nt ct) _ _ _ S10.out.ot G10.out
       have hI3 := rd_up (rd_up I10.out (Keep.of_below (K := []) B1.out) (fun _ h => by cases h) (fun _ _ h => h)) K13 hKM hL3
       have hG3 := K13.box (keep_box B1.out G10.out) (fun hm => hgj (by
        rcases List.mem_cons.1 hm with h | h
        ·rw [h]; simp [RCn.M]
        ·rw [List.mem_singleton.1 h]; simp [RCn.M]))
       have hKX : Keep ([some w9.heap.size] ++ (RCn.mk W2.heap.size w5.heap.size w4.heap.size []).M (.slice ae ne ce) (.slice ad nd cd) (.slice at_ nt ct)) X9 w3 := (Keep.of_below (bt B10.out B1.out)).trans K13 (fun b hb hm => hKM b hm)
       have hMX : Mv X9 (.slice at_ nt ct) (.slice at2 nt3 ct2) := by
        rcases hm2 with h | ⟨b, h, hz⟩
        ·exact .inl h
        ·exact .inr ⟨b, h, Nat.le_trans (bt B10.out B1.out).size hz⟩
       have hL3s : ∀ b, some b ∈ [some w9.heap.size] ++ (RCn.mk W2.heap.size w5.heap.size w4.heap.size []).M (.slice ae ne ce) (.slice ad nd cd) (.slice at2 nt3 ct2) → b < w3.heap.size := fun b hb => by
        rcases List.mem_append.1 hb with h | h
        ·exact S3.out.lx b h
        ·exact (S3.out.low b h).2
       have I3 := Lib.hid hI3; have G3 := Lib.hid hG3; have KX3 := Lib.hid hKX; have MX3 := Lib.hid hMX; have HL3s := Lib.hid hL3s
       clear hgj hI3 hG3 hKX hMX hL3s hS3 hK3 hm2 K13 hKM hL3 hw3 d0 d1 d2 dl z2 f2 S1 O1 S10 I10 G10
       have hWi := r11Without _ (.slice ai ni ci) (greS p sn lot i).inn x w3 I3.out (by rw [Hni.out]; omega)
       have HWi := Lib.hid hWi
       clear hWi
       go_upto_region 39 with (go_at_call 56; refine HWi.out.mono ?_; rintro e4 w6 ⟨vl4, rfl, ho, hb⟩; have O6 := Lib.hid ho; have B6 := Lib.hid hb; clear ho hb)
       obtain ⟨al4, cl4, rfl⟩ := Own.shape O6.out
       obtain ⟨n4, hn4⟩ : ∃ n, ((greS p sn lot i).inn.filter fun y => !(y == x)).length = n := ⟨_, rfl⟩
       rw [hn4] at O6 ⊢
       have Hn4 := Lib.hid hn4
       have hn4b : n4 ≤ 10 := by rw [← hn4]; exact Nat.le_trans (List.length_filter_le _ _) (by rw [Hni.out]; omega)
       clear hn4
       have S6 := Lib.hid (S3.out.below B6.out)
       have G6 := Lib.hid (keep_box B6.out G3.out)
       have I6 := Lib.hid (Rk.ints (base := W2.heap.size) HL3s.out (HB2.out w3 KX3.out).size O6.out (by rw [Hn4.out]; omega))
       have hb7 := keep_box (below_new w6 (.cells #[.int .i64 x] 3)) G6.out
       obtain ⟨-, zz, ff⟩ := own_box (Below.refl _ _) (size_of_box hb7) hb7
       have zC := zz 5
       have fC := ff 5
       have hzl := size_of_box G6.out
       clear zz ff
       go_wp2
       have hK8 : Keep [some w9.heap.size] w6 ((w6.setCell ⟨w9.heap.size, 5, none⟩ (.slice (some ⟨w6.heap.size, 0, none⟩) 1 1)).alloc (.cells #[.int .i64 x] 3)) := ((Keep.refl [some w9.heap.size] w6).setIn _ _ _ (.inl (by simp))).then (below_new _ _)
       have hgr6 := HgrM.out w6 (.slice at2 nt3 ct2) _ _ _ S6.out.ot G6.out
       have hS8 := RS.aside (k := (RCn.mk W2.heap.size w5.heap.size w4.heap.size [some w9.heap.size])) S6.out hK8 (fun b hb => ⟨hb, by rw [List.mem_singleton.1 hb]; exact hgr6⟩)
       have hM6 : ∀ b, some b ∈ [some w9.heap.size] ++ (RCn.mk W2.heap.size w5.heap.size w4.heap.size []).M (.slice ae ne ce) (.slice ad nd cd) (.slice at2 nt3 ct2) → b < w6.heap.size := fun b hb => Nat.lt_of_lt_of_le (HL3s.out b hb) B6.out.size
       have hV8 : RInts ((RCn.mk W2.heap.size w5.heap.size w4.heap.size [some w9.heap.size]).R ((w6.setCell ⟨w9.heap.size, 5, none⟩ (.slice (some ⟨w6.heap.size, 0, none⟩) 1 1)).alloc (.cells #[.int .i64 x] 3)) (.slice ae ne ce) (.slice ad nd cd) (.slice at2 nt3 ct2)) ((w6.setCell ⟨w9.heap.size, 5, none⟩ (.slice (some ⟨w6.heap.size, 0, none⟩) 1 1)).alloc (.cells #[.int .i64 x] 3)) (.slice (some ⟨w6.heap.size, 0, none⟩) 1 1) [x] := by
        have h1 : Arr .i64 ((w6.setCell ⟨w9.heap.size, 5, none⟩ (.slice (some ⟨w6.heap.size, 0, none⟩) 1 1)).alloc (.cells #[.int .i64 x] 3)) w6.heap.size 3 [x] := by
         have := box_new (w6.setCell ⟨w9.heap.size, 5, none⟩ (.slice (some ⟨w6.heap.size, 0, none⟩) 1 1)) (.cells #[.int .i64 x] 3)
         rwa [show (w6.setCell ⟨w9.heap.size, 5, none⟩ (.slice (some ⟨w6.heap.size, 0, none⟩) 1 1)).heap.size = w6.heap.size by simp] at this
        have h3 := Arr.all h1 (S := fun b => b = w6.heap.size) rfl (n := 1) (cap := 1) (fun y hy => by rw [List.mem_singleton.1 hy]; exact Hwf.out) (by simp) (by simp) (Nat.le_refl _)
        refine RInts.mono (fun b hb => ?_) h3
        subst hb
        exact ⟨by have := (HB2.out w3 KX3.out).size; have := B6.out.size; show W2.heap.size ≤ w6.heap.size; omega, by simp, fun hm => Nat.lt_irrefl _ (hM6 _ hm)⟩
       have hI8 := rd_up I6.out hK8 (L' := [some w9.heap.size] ++ (RCn.mk W2.heap.size w5.heap.size w4.heap.size []).M (.slice ae ne ce) (.slice ad nd cd) (.slice at2 nt3 ct2)) (fun b hb => List.mem_append_left _ hb) (fun _ _ h => h)
       have hKX8 : Keep ([some w9.heap.size] ++ (RCn.mk W2.heap.size w5.heap.size w4.heap.size []).M (.slice ae ne ce) (.slice ad nd cd) (.slice at_ nt ct)) X9 ((w6.setCell ⟨w9.heap.size, 5, none⟩ (.slice (some ⟨w6.heap.size, 0, none⟩) 1 1)).alloc (.cells #[.int .i64 x] 3)) := (KX3.out.then B6.out).trans hK8 (fun b hb hm => by rw [List.mem_singleton.1 hm]; exact List.mem_append_left _ (by simp))
       rw [← F7.out, ← F6.out] at hS8
       rw [← F5.out] at hI8
       go_meet
       exact ⟨_, _, _, Lib.hid hS8, Lib.hid (keep_box (below_new _ _) (by rw [heap_setCell_at G6.out]; rfl)), Lib.hid (by rw [F2.out]; exact RSl.nil), Lib.hid (by rw [F3.out]; exact hV8), Lib.hid hI8, Lib.hid hKX8, MX3⟩
     case rest =>
      obtain ⟨vt', v1, v2, hSc, hGc, hV1, hV2, hIc, hKc, hMc⟩ := hcut
      obtain ⟨av, cv, hvt⟩ := Own.shape hSc.out.ot
      obtain ⟨nt2, hnt2⟩ : ∃ n, (greS p sn lot (i + 1)).ties.length = n := ⟨_, rfl⟩
      rw [hnt2] at hvt
      subst hvt
      obtain ⟨a11, c11, hv11, -, -⟩ := RSl.shape hV1.out
      obtain ⟨a12, c12, hv12, -, -⟩ := RSl.shape hV2.out
      obtain ⟨a13, c13, hv13, -, -⟩ := RSl.shape hIc.out
      obtain ⟨n11, hn11⟩ : ∃ n, e.length = n := ⟨_, rfl⟩
      obtain ⟨n12, hn12⟩ : ∃ n, o.length = n := ⟨_, rfl⟩
      obtain ⟨n13, hn13⟩ : ∃ n, (greS p sn lot (i + 1)).inn.length = n := ⟨_, rfl⟩
      rw [hn11] at hv11
      rw [hn12] at hv12
      rw [hn13] at hv13
      subst hv11 hv12 hv13
      obtain ⟨d0, d1, d2, dl⟩ := box3 hSc.out.bg (Below.refl _ wc)
      obtain ⟨-, zG, -⟩ := own_box (Below.refl _ wc) (size_of_box hGc.out) hGc.out
      have zG4 := zG 4
      have hsq2 := HSq.out (i + 1)
      have hel2 : ne + n11 ≤ 10 := by
       have h1 := hsq2.most
       rw [W2_.out, List.length_append, Hne.out, hn11] at h1
       omega
      have hB2c := HB2.out wc hKc.out
      have HB2c := Lib.hid hB2c; have Hel2 := Lib.hid hel2; have Hn11 := Lib.hid hn11; have Hn13 := Lib.hid hn13; have Hn12 := Lib.hid hn12; have Hnt2 := Lib.hid hnt2
      clear hB2c hel2 hn11 hn13 hn12 hnt2 zG hsq2
      have H1 : Hid (n11 ≤ 1000000 ∧ ne ≤ 1000000) := Lib.hid (by have := Hel2.out; omega)
      go_upto_region 41 with (at_builtin; go_must (refine wpList_appT (X := W2) (zs := e) wc Tryz.infoInt rfl rfl Tryz.underlying25 hSc.out.oe (Own.nil _ _ _ _ _) (ApartV.nil _) rfl hV1.out rfl (by rw [Hne.out]; exact H1.out.2) (by rw [Hn11.out]; exact H1.out.1) HB2c.out ?_); intro a14 n14 c14 w11 ho hy ha hg hat hb; have O11 := Lib.hid ho; have Gr11 := Lib.hid hg; have At11 := Lib.hid hat; have hb11 := RS.gr hSc.out (o := (Value.slice ae ne ce).ownBlock) (t := 3) (by simp [RCn.L]) (by decide) hg; obtain ⟨-, zz, ff⟩ := own_box (Below.refl _ w11) (size_of_box hb11) hb11; have z0 := zz 0; have f0 := ff 0; clear ho hy ha hg hat hb hb11 zz ff)
      clear d0 d1 d2 dl zG4 z0 f0
      obtain ⟨w12, hw12⟩ : ∃ W, W = w11.setCell ⟨w5.heap.size, 0, none⟩ (.slice a14 n14 c14) := ⟨_, rfl⟩
      have hm11 : Mv wc (.slice ae ne ce) (.slice a14 n14 c14) := by
       rcases At11.out with h | h
       ·exact .inl h
       ·exact .inr ⟨_, h, Nat.le_refl _⟩
      obtain ⟨hS12, hK12⟩ := RS.elect hSc.out O11.out Gr11.out hm11
      have S12 : Hid (RS (RCn.mk W2.heap.size w5.heap.size w4.heap.size [some w9.heap.size]) w12 (.slice a14 n14 c14) (.slice ad nd cd) (.slice av nt2 cv) ((greS p sn lot (i + 1)).st.map Prod.snd) ((greS p sn lot i).el ++ e) (greS p sn lot i).rounds (greS p sn lot (i + 1)).ties) := Lib.hid (by rw [hw12]; exact hS12)
      have K12 : Keep [some w5.heap.size, (Value.slice ae ne ce).ownBlock] wc w12 := by rw [hw12]; exact hK12
      rw [← hw12]
      have hKM : ∀ b, some b ∈ [some w5.heap.size, (Value.slice ae ne ce).ownBlock] → some b ∈ [some w9.heap.size] ++ (RCn.mk W2.heap.size w5.heap.size w4.heap.size []).M (.slice ae ne ce) (.slice ad nd cd) (.slice av nt2 cv) := fun b hb => List.mem_append_right _ (by
       rcases List.mem_cons.1 hb with h | h
       ·rw [h]; simp [RCn.M]
       ·rw [List.mem_singleton.1 h]; simp [RCn.M])
      have hL12 : ∀ b, b < wc.heap.size → some b ∈ [some w9.heap.size] ++ (RCn.mk W2.heap.size w5.heap.size w4.heap.size []).M (.slice a14 n14 c14) (.slice ad nd cd) (.slice av nt2 cv) → some b ∈ [some w9.heap.size] ++ (RCn.mk W2.heap.size w5.heap.size w4.heap.size []).M (.slice ae ne ce) (.slice ad nd cd) (.slice av nt2 cv) := fun b hb hm => (List.mem_append.1 hm).elim (fun h => List.mem_append_left _ h) fun h => List.mem_append_right _ (RCn.mv (k := (RCn.mk W2.heap.size w5.heap.size w4.heap.size [])) hm11 (Mv.same _ _) (Mv.same _ _) b hb h)
      have hLc : ∀ b, b < X9.heap.size → some b ∈ [some w9.heap.size] ++ (RCn.mk W2.heap.size w5.heap.size w4.heap.size []).M (.slice ae ne ce) (.slice ad nd cd) (.slice av nt2 cv) → some b ∈ ([some w9.heap.size] ++ (RCn.mk W2.heap.size w5.heap.size w4.heap.size []).M (.slice ae ne ce) (.slice ad nd cd) (.slice at_ nt ct)) := fun b hb hm => (List.mem_append.1 hm).elim (fun h => List.mem_append_left _ h) fun h => List.mem_append_right _ (RCn.mv (k := (RCn.mk W2.heap.size w5.heap.size w4.heap.size [])) (Mv.same _ _) (Mv.same _ _) hMc.out b hb h)
      have hgr : some w9.heap.size ∉ [some w5.heap.size, (Value.slice ae ne ce).ownBlock] := fun hm => by
       have : some w9.heap.size ∈ (RCn.mk W2.heap.size w5.heap.size w4.heap.size []).M (.slice ae ne ce) (.slice ad nd cd) (.slice at_ nt ct) := by
        rcases List.mem_cons.1 hm with h | h
        ·rw [h]; simp [RCn.M]
        ·rw [List.mem_singleton.1 h]; simp [RCn.M]
       have := HvE.out _ this
       have := Hgz.out
       omega
      have G12 := K12.box hGc.out hgr
      have V12 := rt_up (rt_up V9.out hKc.out (fun _ h => h) hLc) K12 hKM hL12
      have R112 := ru_up (ru_up R19.out hKc.out (fun _ h => h) hLc) K12 hKM hL12
      have R212 := ru_up (ru_up R29.out hKc.out (fun _ h => h) hLc) K12 hKM hL12
      have E12 := rd_up hV1.out K12 hKM hL12
      have F12 := rd_up hV2.out K12 hKM hL12
      have I12 := rd_up hIc.out K12 hKM hL12
      have hD12 : dRnd ((RCn.mk W2.heap.size w5.heap.size w4.heap.size [some w9.heap.size]).R w12 (.slice a14 n14 c14) (.slice ad nd cd) (.slice av nt2 cv)) w12 [.slice a8 C c8, .bool false, .slice u3 l3 m3, .slice u4 l4 m4, .slice a11 n11 c11, .slice a12 n12 c12] ⟨H.map bill, bill L, e, o⟩ := ⟨_, _, _, _, _, by rw [Hneg.out], V12, R112, R212, E12, F12⟩
      have hb12 : Below W2.heap.size W2 w12 := HB2c.out.trans (Keep.below K12 (fun b hb hm => by
       have h1 := (hSc.out.low b ((List.mem_append.1 (hKM b hm)).elim (fun h => by
        simp only [List.mem_cons, List.not_mem_nil, or_false, Option.some.injEq] at h
        exact absurd (h ▸ hm) hgr) fun h => h)).1
       have hb' : b < W2.heap.size := hb
       have : W2.heap.size ≤ b := h1
       omega) HB2c.out.size)
      obtain ⟨d0, d1, d2, dl⟩ := box3 S12.out.bg (Below.refl _ w12)
      obtain ⟨-, zG, -⟩ := own_box (Below.refl _ w12) (size_of_box G12) G12
      have zG0 := zG 0; have zG1 := zG 1; have zG2 := zG 2; have zG3 := zG 3; have zG4 := zG 4; have zG5 := zG 5
      have hzg := size_of_box G12
      have HD12 := Lib.hid hD12; have HI12 := Lib.hid I12; have Hb12 := Lib.hid hb12; have Hbz := Lib.hid hb12.size
      have Hn6 : Hid ((greS p sn lot i).rounds.length ≤ 1000000) := Lib.hid (by rw [Hnd.out]; omega)
      clear hS12 hK12 hKM hL12 hLc hgr V12 R112 R212 E12 F12 I12 hD12 hb12 K12 hm11 hw12 zG G12
      go_wp2_with (at_builtin; go_must (refine wpList_appF w12 Tryz.infoRnd rfl rfl Tryz.underlying29 ⟨rfl, by omega, by omega, by omega⟩ (dRnd.one _) (dRnd.stable _) W2.heap.size S12.out.ord (fun b hb e => hb.2.2 (List.mem_append_right _ (by simp [RCn.M, e]))) rfl (cs := [.slice a8 C c8, .bool false, .slice u3 l3 m3, .slice u4 l4 m4, .slice a11 n11 c11, .slice a12 n12 c12]) rfl HD12.out rfl Hn6.out Hbz.out ?_); intro a15 n15 c15 w14 ho hB hg hat; have O14 := Lib.hid ho; have Gr14 := Lib.hid hg; have At14 := Lib.hid hat; have hb14 := RS.gr S12.out (o := (Value.slice ad nd cd).ownBlock) (t := 58) (by simp [RCn.L]) (by decide) hg; obtain ⟨-, zz, ff⟩ := own_box (Below.refl _ w14) (size_of_box hb14) hb14; have z1 := zz 1; have f1 := ff 1; have Hb14 := Lib.hid (hB _ _ (Nat.le_refl _) Hb12.out); clear ho hB hg hat hb14 zz ff)
      have hm14 : Mv w12 (.slice ad nd cd) (.slice a15 n15 c15) := At14.out
      have hM14 := RCn.mv (k := (RCn.mk W2.heap.size w5.heap.size w4.heap.size [])) (Mv.same w12 (.slice a14 n14 c14)) hm14 (Mv.same w12 (.slice av nt2 cv))
      have hO14 := Own.dmono (fun _ _ hd => dRnd.mono (RCn.up (k := (RCn.mk W2.heap.size w5.heap.size w4.heap.size [some w9.heap.size])) Gr14.out.size hM14) hd) O14.out
      obtain ⟨hS15, hK15⟩ := RS.round S12.out hO14 Gr14.out hm14
      rw [← W1_.out, ← W2_.out] at hS15
      have hI15 := rd_up HI12.out hK15 (L' := [] ++ (RCn.mk W2.heap.size w5.heap.size w4.heap.size []).M (.slice a14 n14 c14) (.slice a15 n15 c15) (.slice av nt2 cv)) (fun b hb => List.mem_append_right _ (by
       rcases List.mem_cons.1 hb with h | h
       ·rw [h]; simp [RCn.M]
       ·rw [List.mem_singleton.1 h]; simp [RCn.M])) (fun b hb hm => List.mem_append_right _ (hM14 b hb ((List.mem_append.1 hm).elim (fun h => by cases h) fun h => h)))
      refine ⟨⟨i + 1, _, _, _, Lib.hid (RS.side (X := [some w9.heap.size]) (Y := []) (k := (RCn.mk W2.heap.size w5.heap.size w4.heap.size [])) hS15 (Below.refl _ _) (fun b hb => by cases hb)), Lib.hid hI15, Lib.hid (Hb14.out.setCell (p := ⟨w5.heap.size, 1, none⟩) (by have := Hsz.out; show W2.heap.size ≤ w5.heap.size; omega) _)⟩, ?_⟩
      have := Hle1.out
      rw [Hn13.out] at this
      simpa [lenSl] using this
    ·have hfin := hend hlt
     have hv : VOutc (From W2.heap.size) wo (.agg #[.slice ae ne ce, .slice ad nd cd, .slice at_ nt ct]) ⟨(greS p sn lot C).el, (greS p sn lot C).rounds, (greS p sn lot C).ties⟩ := by
      rw [← hfin]
      exact ⟨_, _, _, rfl, Own.rsl hS.out.oe (by rw [hne]; omega), RSl.mono (fun _ _ _ hd => dRnd.mono (fun _ hb => hb.1) hd) (fun _ h => h) (Own.rsl hS.out.ord (by rw [hnd]; omega)), RSl.mono (fun _ _ _ hd => dTie.mono (fun _ hb => hb.1) hd) (fun _ h => h) (Own.rsl hS.out.ot (by rw [hnt]; omega))⟩
     obtain ⟨g3, gc3, gf3⟩ := own_box hb.out (size_of_box Hbo.out) Hbo.out
     have gc30 := gc3 0; have gc31 := gc3 1; have gc32 := gc3 2; have gf30 := gf3 0; have gf31 := gf3 1; have gf32 := gf3 2
     have hlt4 : w.heap.size + 1 < wo.heap.size := size_of_box g3
     have HV := Lib.hid hv; have HFB := Lib.hid (bt Hb0.out hb.out)
     have Hz2 : Hid (w.heap.size + 1 < W2.heap.size) := Lib.hid (size_of_box Hbo.out)
     clear hv hfin hS hI g3 gf3 hsq hm1 hm2 hm3 hen hle hwy hend hne hnd hnt hni hb
     go_wp21
     refine bodyPost_ret (v := .tuple #[.agg #[.slice ae ne ce, .slice ad nd cd, .slice at_ nt ct], .int .i64 0]) (by simp [results, Tryz.results17, go_sem, gc3]) rfl ⟨_, rfl, ?_, ?_⟩
     ·refine VOutc.mono (S := From W2.heap.size) (fun b hb => ?_) (HV.out.same ((((Same.refl _ _).setCell ?_ _).setCell ?_ _).setCell ?_ _))
      ·have := Hz2.out; have hb : W2.heap.size ≤ b := hb; show w.heap.size ≤ b; omega
      all_goals (intro hb; have := Hz2.out; have hb : W2.heap.size ≤ w.heap.size + 1 := hb; omega)
     ·exact ((HFB.out.setCell (p := ⟨w.heap.size + 1, 0, none⟩) (by simp) _).setCell (p := ⟨w.heap.size + 1, 1, none⟩) (by simp) _).setCell (p := ⟨w.heap.size + 1, 2, none⟩) (by simp) _
end Go.Proofs.YthcbkhfmdginiaaGreat

namespace Go.Proofs.YthcbkhfmdginiaaGreat
open Go Go.RowKit Go.Shelf

theorem r18Count (S T : Nat → Prop) (u v : Value) (p : Prof) (seats : Int) (lot : List Int) (w : World) (h : VProf S w u p) (hv : RInts T w v lot) :
  Calls Tryz.prog 17 #[u, .int .i64 seats, v] w (GivesE (rankI p seats lot) (greV p seats lot) w) := by
 by_cases h0 : rankI p seats lot = 0
 ·rw [h0]; exact r18Count_ok S T u v p seats lot w h hv h0
 ·exact r18Count_bad S T u v p seats lot w h hv h0
theorem GivesP.open {p : Prof} {w : World} {e : Ending} {w' : World} (h : GivesP p w e w') : ∃ a m c, e = .returned (.agg #[.int .i64 p.cands, .int .u8 p.kind, .slice a m c]) ∧ VProf Any w' (.agg #[.int .i64 p.cands, .int .u8 p.kind, .slice a m c]) p ∧ Below w.heap.size w w' := by
 obtain ⟨v, rfl, h1, h2⟩ := h
 obtain ⟨a, m, c, rfl⟩ := h1.agg
 exact ⟨a, m, c, rfl, h1.mono fun _ _ => trivial, h2⟩
theorem own_empty (W : World) : Own W.heap.size 3 1 (dInt .i64) (W.alloc (.cells #[] 3)) (.slice (some ⟨W.heap.size, 0, none⟩) 0 0) ([] : List Int) := Own.made _ _ _ _ W #[] 0 (Nat.le_refl _) (by simp [maxLen]) rfl
theorem copy_done {W W3 : World} {u v : Value} {xs : List Int} (_ : RInts Any W u xs) (hl : xs.length ≤ 1000000) (hg : (W.alloc (.cells #[] 3)).grownBy W3 (Value.slice (some ⟨W.heap.size, 0, none⟩) 0 0).ownBlock) (ho : Same (Cut Any W.heap.size) (W.alloc (.cells #[] 3)) W3 → Own W.heap.size 3 1 (dInt .i64) W3 v ([] ++ xs)) : RInts Any W3 v xs ∧ Below W.heap.size W W3 := by
 have hb : Below W.heap.size W W3 := (below_new W _).grown hg (by simp) (fun k e => by simp [Value.ownBlock] at e; omega)
 have h1 := ho (fun b hb' hs => hg.block b hb' (fun e => by have := hs.2; simp [Value.ownBlock] at e; omega))
 rw [List.nil_append] at h1
 exact ⟨RSl.mono (fun _ _ _ h => h) (fun _ _ => trivial) (Own.rsl h1 (by omega)), hb⟩
set_option maxHeartbeats 8000000 in
set_option maxRecDepth 100000 in
theorem law_gtells (u v : Value) (p : Prof) (seats : Int) (lot : List Int) (value n most : Int) (w : World) (h : VProf Any w u p) (_ : (Lit.int .i64 seats).wf = true) (hv : RInts Any w v lot) (hwv : (Lit.int .i64 value).wf = true) (hwn : (Lit.int .i64 n).wf = true) (_ : (Lit.int .i64 most).wf = true) :
  Calls Tryz.prog 3 #[u, .int .i64 seats, v, .int .i64 value, .int .i64 n, .int .i64 most] w fun e w' => e = .returned (.bool true) ∧ Below w.heap.size w w' := by
 have h1 := h
 obtain ⟨a, m, c, rfl⟩ := h.agg
 obtain ⟨a2, m2, c2, rfl⟩ := RSl.slice hv
 obtain ⟨W0, hW0⟩ : ∃ W0, W0 = w.alloc (.cells #[.int .i64 p.cands, .int .u8 p.kind, .slice a m c] 24) := ⟨_, rfl⟩
 have hb0 : Below w.heap.size w W0 := by rw [hW0]; exact below_new w _
 have hg0 : W0.heap[w.heap.size]? = some (.cells #[.int .i64 p.cands, .int .u8 p.kind, .slice a m c] 24 (0, 0)) := by rw [hW0]; exact box_new w _
 have hP := h1.same (.of_below hb0)
 have hL := hv.same (.of_below hb0)
 have hGr := r11Great Any Any _ _ p lot W0 hP hL
 have hTw := fun (W : World) (hW : Below W0.heap.size W0 W) (k1 : p.rows.length ≤ 140) (k2 : ∀ r ∈ p.rows, r.marks.length ≤ 60) => (r09Twin Any _ p W (hP.same (.of_below hW)) k1 k2).mono fun e w' hh => GivesP.open hh
 have hLo := fun (W : World) (hW : Below W0.heap.size W0 W) => (hL.same (.of_below hW)).cut
 have hA := fun (W : World) (hW : Below W0.heap.size W0 W) (k : lot.length ≤ 60) => (greCount Any Any _ _ p seats lot W (hP.same (.of_below hW)) (hL.same (.of_below hW)) (by omega)).mono fun e w' hh => GivesE.open hh
 have hR := fun (W : World) (hW : Below W0.heap.size W0 W) => (r18Count Any Any _ _ p seats lot W (hP.same (.of_below hW)) (hL.same (.of_below hW))).mono fun e w' hh => GivesE.open hh
 have hQ1 := fun (W : World) (hW : Below W0.heap.size W0 W) => greQuota Any _ p seats W (hP.same (.of_below hW))
 have hQ2 := fun (W : World) (hW : Below W0.heap.size W0 W) => r18Quota Any _ p seats W (hP.same (.of_below hW))
 have hP1 := fun (W : World) => grePass value n most W hwv hwn
 have hP2 := fun (W : World) => r18Pass value n most W
 obtain ⟨I0, hI0⟩ : ∃ I, rankI p seats lot = I := ⟨_, rfl⟩
 obtain ⟨O0, hO0⟩ : ∃ O, greV p seats lot = O := ⟨_, rfl⟩
 obtain ⟨I1, hI1⟩ : ∃ I, quotaI p seats = I := ⟨_, rfl⟩
 obtain ⟨V1, hV1⟩ : ∃ I, quotaV p seats = I := ⟨_, rfl⟩
 obtain ⟨I2, hI2⟩ : ∃ I, passI value n most = I := ⟨_, rfl⟩
 obtain ⟨V2, hV2⟩ : ∃ I, passV value n most = I := ⟨_, rfl⟩
 simp only [hI0, hO0] at hA hR
 simp only [hI1, hV1] at hQ1 hQ2
 simp only [hI2, hV2] at hP1 hP2
 have hS := fun (W : World) (x y : Value) (hx : VProf Any W x p) (hy : VProf Any W y p) => r09Same_eq Any Any x y p W hx hy
 have hPv := fun (W : World) (hW : Below W0.heap.size W0 W) => hP.same (S := Any) (.of_below hW)
 obtain ⟨cc, hcc⟩ : ∃ x, p.cands = x := ⟨_, rfl⟩
 obtain ⟨kk, hkk⟩ : ∃ x, p.kind = x := ⟨_, rfl⟩
 simp only [hcc, hkk] at hg0 hW0 hGr hTw hPv hA hR hQ1 hQ2 ⊢
 rw [hW0] at hGr
 have HGr := Lib.hid hGr; have HTw := Lib.hid hTw; have HLo := Lib.hid hLo; have HSm := Lib.hid hS; have HPv := Lib.hid hPv
 have HA := Lib.hid hA; have HR := Lib.hid hR; have HQ1 := Lib.hid hQ1; have HQ2 := Lib.hid hQ2; have HP1 := Lib.hid hP1; have HP2 := Lib.hid hP2
 have HW0 := Lib.hid hW0; have G0 := Lib.hid hg0; have Hb0 := Lib.hid hb0
 have st0 := Lib.hid True.intro
 clear hGr hTw hLo hS hPv hA hR hQ1 hQ2 hP1 hP2 hI0 hI1 hI2 hO0 hV1 hV2 hP hL h h1 hv hW0 hg0 hb0 hcc hkk hwv hwn
 go_enter Tryz.func3, Tryz.ntmps3
 go_wp2_with (go_at_call 13; refine HGr.out.mono ?_; rintro e w1 ⟨G, rfl, hG, hb⟩; rw [← HW0.out] at hb; have q0 := hb; have hsz := q0.size; obtain ⟨pa1, pb1, pc1, pl1⟩ := box3 G0.out q0; have HG := Lib.hid hG; clear hb hG; cases G)
 ·obtain ⟨k140, k60, kl60⟩ := HG.out (by first | rfl | trivial)
  have st1 := Lib.hid True.intro
  clear st0 HG
  go_wp2_with (first
  | (have := st12; go_at_call 14; clear st12; refine (wakes18 _).mono ?_; rintro e w13 ⟨rfl, hb⟩; have C13 := Lib.hid (bel_st (B := w12.heap.size) (w := w12) (by go_grown) hb (by go_size)); replace q0 := bt q0 C13.out; replace hsz := q0.size; clear hb; have st13 := Lib.hid True.intro; clear this)
  | (have := st11; go_at_call 24; clear st11; refine (ints_eq Any Any _ _ lot _ (RSl.mono (fun _ _ _ h => h) (fun _ _ => trivial) (HLo.out _ q0)) (HL3.out.same (.of_below (bt C4.out (bt C5.out (bt C6.out (bt C7.out (bt C8.out (bt C9.out (bt C10.out C11.out)))))))))).mono ?_; rintro e w12 ⟨rfl, hb⟩; have C12 := Lib.hid (bel_st (B := w11.heap.size) (w := w11) (by go_grown) hb (by go_size)); replace q0 := bt q0 C12.out; replace hsz := q0.size; clear hb; have st12 := Lib.hid True.intro; clear this)
  | (have := st10; go_at_call 23; clear st10; refine (HSm.out _ _ _ (HPv.out _ q0) (HT.out.same (.of_below (bt C3.out (bt C4.out (bt C5.out (bt C6.out (bt C7.out (bt C8.out (bt C9.out C10.out)))))))))).mono ?_; rintro e w11 ⟨rfl, hb⟩; have C11 := Lib.hid (bel_st (B := w10.heap.size) (w := w10) (by go_grown) hb (by go_size)); replace q0 := bt q0 C11.out; replace hsz := q0.size; clear hb; have st11 := Lib.hid True.intro; clear this)
  | (have := st9; go_at_call 22; clear st9; refine (r11Same_eq Any Any _ _ O0 _ (HV4.out.same (.of_below (bt C5.out (bt C6.out (bt C7.out (bt C8.out C9.out)))))) (HV5.out.same (.of_below (bt C6.out (bt C7.out (bt C8.out C9.out)))))).mono ?_; rintro e w10 ⟨rfl, hb⟩; have C10 := Lib.hid (bel_st (B := w9.heap.size) (w := w9) (by go_grown) hb (by go_size)); replace q0 := bt q0 C10.out; replace hsz := q0.size; clear x4a x4b x4c x4l x5a x5b x5c x5l; obtain ⟨pa10, pb10, pc10, pl10⟩ := box3 G0.out q0; obtain ⟨t1, t2, t3, t4⟩ := box3 GB3.out (bt C5.out (bt C6.out (bt C7.out (bt C8.out (bt C9.out C10.out))))); clear hb; have st10 := Lib.hid True.intro; clear this)
  | (have := st8; go_at_call 21; clear st8; refine (HP2.out _).mono ?_; rintro e w9 ⟨rfl, hb⟩; have C9 := Lib.hid (bel_st (B := w8.heap.size) (w := w8) (by go_grown) hb (by go_size)); replace q0 := bt q0 C9.out; replace hsz := q0.size; obtain ⟨x4a, x4b, x4c, x4l⟩ := box3 GB4.out (bt C6.out (bt C7.out (bt C8.out C9.out))); obtain ⟨x5a, x5b, x5c, x5l⟩ := box3 GB5.out (bt C7.out (bt C8.out C9.out)); clear hb; have st9 := Lib.hid True.intro; clear this)
  | (have := st7; go_at_call 20; clear st7; refine (HP1.out _).mono ?_; rintro e w8 ⟨rfl, hb⟩; have C8 := Lib.hid (bel_st (B := w7.heap.size) (w := w7) (by go_grown) hb (by go_size)); replace q0 := bt q0 C8.out; replace hsz := q0.size; clear hb; have st8 := Lib.hid True.intro; clear this)
  | (have := st6; go_at_call 19; clear st6; refine (HQ2.out _ q0).mono ?_; rintro e w7 ⟨rfl, hb⟩; have C7 := Lib.hid (bel_st (B := w6.heap.size) (w := w6) (by go_grown) hb (by go_size)); replace q0 := bt q0 C7.out; replace hsz := q0.size; clear hb; have st7 := Lib.hid True.intro; clear this)
  | (have := st5; go_at_call 18; clear st5; refine (HQ1.out _ (by go_grown)).mono ?_; rintro e w6 ⟨rfl, hb⟩; have C6 := Lib.hid (bel_st (B := w5.heap.size) (w := w5) (by go_grown) hb (by go_size)); replace q0 := bt q0 C6.out; replace hsz := q0.size; have GB5 := Lib.hid (show w6.heap[w5.heap.size]? = some (.cells #[.slice b51 m51 c51, .slice b52 m52 c52, .slice b53 m53 c53] 32 (0, 0)) from lay_at (w := w5) (os := [.cells #[.slice b51 m51 c51, .slice b52 m52 c52, .slice b53 m53 c53] 32]) hb 0 rfl); obtain ⟨pa6, pb6, pc6, pl6⟩ := box3 G0.out q0; clear hb; have st6 := Lib.hid True.intro; clear this)
  | (have := st4; go_at_call 17; clear st4; refine (HR.out _ (by go_grown)).mono ?_; rintro e w5 ⟨b51, m51, c51, b52, m52, c52, b53, m53, c53, rfl, kv, hb⟩; have C5 := Lib.hid (bel_st (B := w4.heap.size) (w := w4) (by go_grown) hb (by go_size)); replace q0 := bt q0 C5.out; replace hsz := q0.size; have GB4 := Lib.hid (show w5.heap[w4.heap.size]? = some (.cells #[.slice b41 m41 c41, .slice b42 m42 c42, .slice b43 m43 c43] 32 (0, 0)) from lay_at (w := w4) (os := [.cells #[.slice b41 m41 c41, .slice b42 m42 c42, .slice b43 m43 c43] 32]) hb 0 rfl); have HV5 := Lib.hid (kv.mono (fun _ _ => trivial) : VOutc Any w5 (.agg #[.slice b51 m51 c51, .slice b52 m52 c52, .slice b53 m53 c53]) O0); clear kv; obtain ⟨pa5, pb5, pc5, pl5⟩ := box3 G0.out q0; clear hb; have st5 := Lib.hid True.intro; clear this)
  | (have := st3; go_at_call 16; clear st3; refine (HA.out _ (by go_grown) kl60).mono ?_; rintro e w4 ⟨b41, m41, c41, b42, m42, c42, b43, m43, c43, rfl, kv, hb⟩; have C4 := Lib.hid (bel_st (B := w3.heap.size) (w := w3) (by go_grown) hb (by go_size)); replace q0 := bt q0 C4.out; replace hsz := q0.size; have GB3 := Lib.hid (show w4.heap[w3.heap.size]? = some (.cells #[.int .i64 cc, .int .u8 kk, .slice ta tm tc] 24 (0, 0)) from lay_at (w := w3) (os := [.cells #[.int .i64 cc, .int .u8 kk, .slice ta tm tc] 24]) hb 0 rfl); have HV4 := Lib.hid (kv.mono (fun _ _ => trivial) : VOutc Any w4 (.agg #[.slice b41 m41 c41, .slice b42 m42 c42, .slice b43 m43 c43]) O0); clear kv; obtain ⟨pa4, pb4, pc4, pl4⟩ := box3 G0.out q0; clear hb; have st4 := Lib.hid True.intro; clear this)
  | (have := st2; at_builtin; clear st2; go_must (refine wpList_appV _ Tryz.infoInt rfl rfl Tryz.underlying25 ⟨rfl, by omega, by omega⟩ (dInt.one _) (dInt.stable (Cut Any w2.heap.size) .i64) w2.heap.size (own_empty w2) rfl (HLq.out.same (.of_below (below_new w2 _))) rfl (by simp; omega) (by simp) ?_); intro a3 n3 c3 w3 hgr hat ho; obtain ⟨kl, kb⟩ := copy_done (RSl.mono (fun _ _ _ h => h) (fun _ _ => trivial) HLq.out) (by omega) hgr ho; have HL3 := Lib.hid (show RInts Any w3 (.slice a3 n3 c3) lot from kl); have C3 := Lib.hid kb; replace q0 := bt q0 C3.out; replace hsz := q0.size; obtain ⟨pa3, pb3, pc3, pl3⟩ := box3 G0.out q0; clear kl kb hgr hat ho; have st3 := Lib.hid True.intro; clear this)
  | (have := st1; go_at_call 15; clear st1; refine (HTw.out _ q0 k140 k60).mono ?_; rintro e w2 ⟨ta, tm, tc, rfl, kv, hb⟩; have C2 := Lib.hid (bel_st (B := w1.heap.size) (w := w1) (by go_grown) hb (by go_size)); replace q0 := bt q0 C2.out; replace hsz := q0.size; have HT := Lib.hid kv; clear kv; have HLq := Lib.hid (HLo.out _ q0); clear hb; have st2 := Lib.hid True.intro; clear this))
  go_ret
  exact ⟨rfl, bt Hb0.out q0⟩
 ·clear HG
  go_wp2_with (go_at_call 14; refine (wakes18 _).mono ?_; rintro e w2 ⟨rfl, hb⟩)
  go_ret
  exact ⟨rfl, bt Hb0.out (bt q0 hb)⟩
end Go.Proofs.YthcbkhfmdginiaaGreat

namespace Go.Proofs.YthcbkhfmdginiaaGreat
open Go Go.RowKit Go.ChangeShapes Go.WideShapes Go.ChangeAt

set_option maxRecDepth 100000 in
theorem gregoryTells_lifted (os : Os) (started : os.Started) (H : Type) (enc : TypeId × Value → H) :
  ReturnsInHanded {} Tryz.checked os 3 .any (Rows.gregoryTellsSpec.pre6 enc Tryz.prog Tryz.f3 Rows.gregoryTellsRow.domain false) (Rows.gregoryTellsSpec.post enc Tryz.prog Tryz.f3 false true false false) := by
 refine returnsInHanded_of_change_sized (C := Tryz.checked) Tryz.own started (by kernel_rfl) Tryz.func3
  (ChangeSpec.witness6 (enc := enc) (C := Tryz.checked) false ⟨#[], #[.agg #[.int .i64 0, .int .u8 0, .slice none 0 0], .int .i64 0, .slice none 0 0, .int .i64 0, .int .i64 0, .int .i64 0], []⟩ 8 (by kernel_rfl) (by kernel_rfl) (by kernel_rfl) (by kernel_rfl)) ?_
 intro W base args ds gs before hval0 hW hcnd hsz0 _
 have hval : ∀ (j : Nat) t v, Tryz.f3.params[j]? = some t → args[j]? = some v → Value.okWide Tryz.prog W .any base t v := hval0
 have hsz : (DataW.weightsEach Tryz.prog (Tryz.f3.params.toList ++ Rows.gregoryTellsSpec.plain.varTypes Tryz.prog) (ds ++ gs)).all (· ≤ reachBytes) = true := hsz0
 have hW' := hW
 obtain ⟨p, q, hA0, hV, rfl, hfz, hnd⟩ := hW
 have hA : DataW.TrodAll enc Tryz.prog W 0 (fun _ => true) true Tryz.f3.params.toList args.toList ds p := hA0
 rw [Tryz.params3] at hA hval hsz
 obtain ⟨v0, vs0, d0, ds0, p0, q0, hargs, rfl, rfl, h0, r0⟩ := trodAll_cons hA
 obtain ⟨v1, vs1, d1, ds1, p1, q1, rfl, rfl, rfl, h1, r1⟩ := trodAll_cons r0
 obtain ⟨v2, vs2, d2, ds2, p2, q2, rfl, rfl, rfl, h2, r2⟩ := trodAll_cons r1
 obtain ⟨v3, vs3, d3, ds3, p3, q3, rfl, rfl, rfl, h3, r3⟩ := trodAll_cons r2
 obtain ⟨v4, vs4, d4, ds4, p4, q4, rfl, rfl, rfl, h4, r4⟩ := trodAll_cons r3
 obtain ⟨v5, vs5, d5, ds5, p5, q5, rfl, rfl, rfl, h5, r5⟩ := trodAll_cons r4
 obtain ⟨rfl, rfl, rfl⟩ := trodAll_nil r5
 obtain rfl : args = #[v0, v1, v2, v3, v4, v5] := by cases args; simp_all
 obtain ⟨rfl, rfl⟩ := trodVars_none hV
 have k0 := h0
 have k1 := h1
 have k2 := h2
 have k3 := h3
 have k4 := h4
 have k5 := h5
 have lt0 : ∀ x ∈ p0, x.block < W.heap.size := by obtain ⟨m, hm⟩ := k0; exact DataW.trod_lt m _ _ _ hm
 have lt1 : ∀ x ∈ p1, x.block < W.heap.size := by obtain ⟨m, hm⟩ := k1; exact DataW.trod_lt m _ _ _ hm
 have lt2 : ∀ x ∈ p2, x.block < W.heap.size := by obtain ⟨m, hm⟩ := k2; exact DataW.trod_lt m _ _ _ hm
 have lt3 : ∀ x ∈ p3, x.block < W.heap.size := by obtain ⟨m, hm⟩ := k3; exact DataW.trod_lt m _ _ _ hm
 have lt4 : ∀ x ∈ p4, x.block < W.heap.size := by obtain ⟨m, hm⟩ := k4; exact DataW.trod_lt m _ _ _ hm
 have lt5 : ∀ x ∈ p5, x.block < W.heap.size := by obtain ⟨m, hm⟩ := k5; exact DataW.trod_lt m _ _ _ hm
 obtain ⟨x0, y0⟩ := arg_prof (hval 0 _ v0 rfl rfl) h0 (weights_at hsz 0 rfl rfl)
 obtain ⟨x1, rfl, e1, e1', wf1⟩ := open_int Tryz.underlying3 (hval 1 _ v1 rfl rfl) h1
 obtain ⟨x2, y2⟩ := arg_ints (hval 2 _ v2 rfl rfl) h2 (weights_at hsz 2 rfl rfl)
 obtain ⟨x3, rfl, e3, e3', wf3⟩ := open_int Tryz.underlying3 (hval 3 _ v3 rfl rfl) h3
 obtain ⟨x4, rfl, e4, e4', wf4⟩ := open_int Tryz.underlying3 (hval 4 _ v4 rfl rfl) h4
 obtain ⟨x5, rfl, e5, e5', wf5⟩ := open_int Tryz.underlying3 (hval 5 _ v5 rfl rfl) h5
 clear hA0 hval0
 refine (law_gtells v0 v2 x0 x1 x2 x3 x4 x5 W y0 wf1 y2 wf3 wf4 wf5).mono fun e W' ⟨he, bel⟩ => ?_
 subst he
 exact ⟨_, rfl, _, _, _, [], _, [], hW', trodAll_mk1 (shut_bool Tryz.underlying4 _), (trodAll_cons_mk (Below.trod Tryz.laidOut (by kernel_rfl) (of_decide_eq_true (by kernel_rfl)) k0 bel lt0) (trodAll_cons_mk (Below.trod Tryz.laidOut (by kernel_rfl) (of_decide_eq_true (by kernel_rfl)) k1 bel lt1) (trodAll_cons_mk (Below.trod Tryz.laidOut (by kernel_rfl) (of_decide_eq_true (by kernel_rfl)) k2 bel lt2) (trodAll_cons_mk (Below.trod Tryz.laidOut (by kernel_rfl) (of_decide_eq_true (by kernel_rfl)) k3 bel lt3) (trodAll_cons_mk (Below.trod Tryz.laidOut (by kernel_rfl) (of_decide_eq_true (by kernel_rfl)) k4 bel lt4) (trodAll_cons_mk (Below.trod Tryz.laidOut (by kernel_rfl) (of_decide_eq_true (by kernel_rfl)) k5 bel lt5) trodAll_mk0)))))), rfl, bel.frame _, fun h => by cases h⟩

theorem gregoryTells_named : Tryz.prog.funcNamed Rows.gregoryTellsRow.func = some 3 := by kernel_rfl
theorem gregoryTells_facts : joinedFacts Tryz.prog 3 Tryz.f3 Rows.gregoryTellsSpec Rows.gregoryTellsRow = true := by kernel_rfl
theorem gregoryTells_inst : Tryz.f3.isInstance Tryz.prog Rows.gregoryTellsRow.origin Rows.gregoryTellsRow.targs := of_decide_eq_true (by kernel_rfl)
theorem gregoryTells_wrap : Tryz.f3.isWrapper Tryz.prog Rows.gregoryTellsRow.wrapper Rows.gregoryTellsRow.mainSum := by
 unfold Func.isWrapper
 rw [if_neg (of_decide_eq_false (by kernel_rfl))]
 exact ⟨rfl, rfl⟩
theorem gregoryTells_holds : Rows.GregoryTellsSaid :=
 OpenClaim.holds_of_wide 3 Tryz.f3 rfl rfl rfl rfl rfl rfl rfl ⟨rfl, rfl, rfl, rfl, rfl⟩ rfl rfl rfl rfl rfl gregoryTells_named Tryz.func3 gregoryTells_facts
  gregoryTells_inst gregoryTells_wrap
  (fun os started H enc _ => gregoryTells_lifted os started H enc)
#print axioms gregoryTells_holds
end Go.Proofs.YthcbkhfmdginiaaGreat
