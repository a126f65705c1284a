/- Texts of one claim, put together: WakG, WakH, LawG. -/
import Derived.Test.YthcbkhfmdginiaaGreatFGGreM
import Derived.Test.YthcbkhfmdginiaaGreatFGR18
import Derived.Test.YthcbkhfmdginiaaGreatFGSam
import Derived.Test.YthcbkhfmdginiaaGreatFGRul

namespace Go.Proofs.YthcbkhfmdginiaaGreat
open Go Go.RowKit Go.Shelf Limb

def exG : Prof := ⟨3, 1, [⟨[0, 1], 6⟩, ⟨[1], 1⟩, ⟨[2], 3⟩]⟩
theorem exg1 : rankI exG 2 [0, 1, 2] = 0 := by decide +kernel
theorem exg2 : rankI exG 4 [0, 1, 2] = 2 := by decide +kernel
theorem exg3 : rankI ⟨0, 0, []⟩ 1 [] = 8 := by decide +kernel
def exGO : Outc := ⟨[0, 2], [⟨[6000000000, 1000000000, 3000000000].map bill, bill 0, [0], []⟩, ⟨[4000000000, 2999999998, 3000000000].map bill, bill 2, [], [1]⟩, ⟨[4000000000, 0, 3000000000].map bill, bill 3000000000, [2], []⟩], []⟩
theorem exg4 : greV exG 2 [0, 1, 2] = exGO := by
 rw [greV, exg1, if_pos rfl]
 have e : greS exG (2 : Int).toNat [0, 1, 2] exG.cands.toNat = ⟨[(⟨[0, 1], 6⟩, 333333333), (⟨[1], 1⟩, 1000000000), (⟨[2], 3⟩, 1000000000)], [], exGO.elected, exGO.rounds, exGO.ties⟩ := rfl
 rw [e]
theorem exg5 : quotaV exG 2 = 4 ∧ quotaI exG 2 = 0 ∧ quotaV exG 0 = 0 ∧ quotaI exG 0 = 2 := by decide +kernel
theorem exg6 : passV 1000000000 6000000000 4000000000 = 333333333 ∧ passI 1000000000 6000000000 4000000000 = 0 ∧ passI 1 1 2 = 2 ∧ passI 1 0 0 = 2 := by decide +kernel
set_option maxHeartbeats 1000000 in
/-- The law's round. -/
theorem l18Round (S : Nat → Prop) (v : Value) (had : List Int) (lost : Nat) (a1 : Option Addr) (n1 c1 : Nat) (a2 : Option Addr) (n2 c2 : Nat) (w : World) (h : RInts S w v had) (hl : had.length ≤ 1000000) (hn : ∀ x ∈ had, 0 ≤ x ∧ x ≤ 1000000000000000) (h2 : lost ≤ 1000000000000000) :
  Calls Tryz.prog 60 #[v, .int .i64 lost, .slice a1 n1 c1, .slice a2 n2 c2] w fun e w' => ∃ ah nh ch an mn cn ad md cd, e = .returned (.agg #[.slice ah nh ch, .bool false, .slice an mn cn, .slice ad md cd, .slice a1 n1 c1, .slice a2 n2 c2]) ∧
   RRts (From w.heap.size) w' (.slice ah nh ch) (had.map bill) ∧ RU (From w.heap.size) w' (.slice an mn cn) (bill lost).num ∧ RU (From w.heap.size) w' (.slice ad md cd) (bill lost).den ∧ Below w.heap.size w w' := by
 obtain ⟨a, cap, rfl, -, -⟩ := RSl.shape h
 obtain ⟨W0, hW0⟩ : ∃ W, W = w.alloc (.cells #[.slice none 0 0, .bool false, .slice none 0 0, .slice none 0 0, .slice none 0 0, .slice none 0 0] 58) := ⟨_, rfl⟩
 have hb0 : Below w.heap.size w W0 := by rw [hW0]; exact below_new _ _
 have hg0 : W0.heap[w.heap.size]? = some (.cells #[.slice none 0 0, .bool false, .slice none 0 0, .slice none 0 0, .slice none 0 0, .slice none 0 0] 58 (0, 0)) := by rw [hW0]; exact box_new _ _
 have hT := r18Told S _ had W0 (h.same (.of_below hb0)) hl hn
 have hT2 := fun W v (hv : RInts Any W v [(lost : Int)]) => r18Told Any v [(lost : Int)] W hv (by simp) (fun x hx => by rw [List.mem_singleton.1 hx]; omega)
 have hz : w.heap.size + 1 = W0.heap.size := by rw [hW0]; simp
 have hwl : (Lit.int .i64 (lost : Int)).wf = true := WalkArith.wf_i64 (by omega)
 have hml : (had.map bill).length ≤ 1000000 := by rw [List.length_map]; exact hl
 obtain ⟨n, hnn⟩ : ∃ n, had.length = n := ⟨_, rfl⟩
 rw [hnn] at hT ⊢
 rw [hW0] at hT
 have HT := Lib.hid hT; have HT2 := Lib.hid hT2; have HW0 := Lib.hid hW0; have Hb0 := Lib.hid hb0; have Hg0 := Lib.hid hg0; have Hz := Lib.hid hz; have Hwl := Lib.hid hwl; have Hml := Lib.hid hml
 clear hT hT2 hW0 hb0 hg0 hz hwl hml h hl hn hnn
 have st0 := Lib.hid True.intro
 go_enter Tryz.func60, Tryz.ntmps60
 go_wp2_with (first
  | (have := st1; go_at_call 66; clear st1; refine (HT2.out _ _ (lit1 (box_new w1 _) Hwl.out)).mono ?_; rintro e w2 ⟨v2, rfl, ho2, hb2⟩; obtain ⟨g2, p2, an, mn, cn, ad, md, cd, rfl, hc2, r1, r2⟩ := bill1 ho2; have B2 := Lib.hid (bt (below_new w1 (.cells #[.int .i64 (lost : Int)] 3)) hb2); obtain ⟨x0, x1, x2⟩ := hc2 w2 (Below.refl _ _); obtain ⟨g3, z, f⟩ := own_box (bt B1.out B2.out) (size_of_box Hg0.out) Hg0.out; have f0 := f 0; have f1 := f 1; have f2 := f 2; have f3 := f 3; have f4 := f 4; have f5 := f 5; have z0 := z 0; have z1 := z 1; have z2 := z 2; have z3 := z 3; have z4 := z 4; have z5 := z 5; have hlt : w.heap.size < w2.heap.size := size_of_box g3; have R1 := Lib.hid r1; have R2 := Lib.hid r2; clear hc2 ho2 hb2 r1 r2 g3 f z this)
  | (have := st0; go_at_call 66; clear st0; refine HT.out.mono ?_; rintro e w1 ⟨v1, rfl, ho1, hb1⟩; rw [← HW0.out] at ho1 hb1; obtain ⟨ah, nh, ch, rfl⟩ := Own.slice ho1; have Ho1 := Lib.hid ho1; have B1 := Lib.hid hb1; clear ho1 hb1 this; have st1 := Lib.hid True.intro))
 have hk := OwnX.rsl famRt (by omega) Ho1.out (by have := Hml.out; omega)
 have hs1 := B1.out.size
 have hs2 := B2.out.size
 have hzz := Hz.out
 refine bodyPost_ret (v := .agg #[.slice ah nh ch, .bool false, .slice an mn cn, .slice ad md cd, .slice a1 n1 c1, .slice a2 n2 c2]) (by simp [results, Tryz.results60, go_sem, z0, z1, z2, z3, z4, z5]) rfl ⟨_, _, _, _, _, _, _, _, _, rfl, ?_, ?_, ?_, ?_⟩
 ·refine RSl.mono (fun _ _ _ hd => dRt.mono (fun b hb => ?_) hd) (fun b hb => ?_) (RRts.same ((((((((Same.refl (fun b => b ≠ w.heap.size ∧ w.heap.size ≤ b) w2).setCell (p := ⟨w.heap.size, 0, none⟩) (by simp) _).setCell (p := ⟨w.heap.size, 1, none⟩) (by simp) _).setCell (p := ⟨w.heap.size, 2, none⟩) (by simp) _).setCell (p := ⟨w.heap.size, 3, none⟩) (by simp) _).setCell (p := ⟨w.heap.size, 4, none⟩) (by simp) _).setCell (p := ⟨w.heap.size, 5, none⟩) (by simp) _)) (RRts.same (.of_below B2.out) (RSl.mono (T := fun b => b ≠ w.heap.size ∧ w.heap.size ≤ b) (fun _ _ _ hd => dRt.mono (fun b hb => by have := hb.1; omega) hd) (fun b hb => by have := hb.1; omega) hk)))
  ·exact hb.2
  ·exact hb.2
 ·refine RSl.mono (fun _ _ _ h => h) (fun b hb => ?_) (RU.same ((((((((Same.refl (fun b => b ≠ w.heap.size ∧ w.heap.size ≤ b) w2).setCell (p := ⟨w.heap.size, 0, none⟩) (by simp) _).setCell (p := ⟨w.heap.size, 1, none⟩) (by simp) _).setCell (p := ⟨w.heap.size, 2, none⟩) (by simp) _).setCell (p := ⟨w.heap.size, 3, none⟩) (by simp) _).setCell (p := ⟨w.heap.size, 4, none⟩) (by simp) _).setCell (p := ⟨w.heap.size, 5, none⟩) (by simp) _)) (RU.mono (T := fun b => b ≠ w.heap.size ∧ w.heap.size ≤ b) (fun b hb => by have := hb.1; simp at this; omega) R1.out))
  exact hb.2
 ·refine RSl.mono (fun _ _ _ h => h) (fun b hb => ?_) (RU.same ((((((((Same.refl (fun b => b ≠ w.heap.size ∧ w.heap.size ≤ b) w2).setCell (p := ⟨w.heap.size, 0, none⟩) (by simp) _).setCell (p := ⟨w.heap.size, 1, none⟩) (by simp) _).setCell (p := ⟨w.heap.size, 2, none⟩) (by simp) _).setCell (p := ⟨w.heap.size, 3, none⟩) (by simp) _).setCell (p := ⟨w.heap.size, 4, none⟩) (by simp) _).setCell (p := ⟨w.heap.size, 5, none⟩) (by simp) _)) (RU.mono (T := fun b => b ≠ w.heap.size ∧ w.heap.size ≤ b) (fun b hb => by have := hb.1; simp at this; omega) R2.out))
  exact hb.2
 ·exact ((((((bt Hb0.out (bt B1.out B2.out)).setCell (p := ⟨w.heap.size, 0, none⟩) (Nat.le_refl _) _).setCell (p := ⟨w.heap.size, 1, none⟩) (Nat.le_refl _) _).setCell (p := ⟨w.heap.size, 2, none⟩) (Nat.le_refl _) _).setCell (p := ⟨w.heap.size, 3, none⟩) (Nat.le_refl _) _).setCell (p := ⟨w.heap.size, 4, none⟩) (Nat.le_refl _) _).setCell (p := ⟨w.heap.size, 5, none⟩) (Nat.le_refl _) _
end Go.Proofs.YthcbkhfmdginiaaGreat

namespace Go.Proofs.YthcbkhfmdginiaaGreat
open Go Go.RowKit Go.Shelf Limb

theorem rrowA {W : World} {v : Value} {r : Row} (h : RInts Any W v r.marks) (hw : (Lit.int .i64 r.many).wf = true) : Dec 2 (dRow Any) W [v, .int .i64 r.many] [r] := Dec.single rfl ⟨v, rfl, hw, h⟩
theorem wakg_lays (w : World) : VProf Any (lays w [.cells #[.int .i64 0, .int .i64 1] 3, .cells #[.int .i64 1] 3, .cells #[.int .i64 2] 3, .cells #[.slice (some ⟨w.heap.size, 0, none⟩) 2 2, .int .i64 6, .slice (some ⟨w.heap.size + 1, 0, none⟩) 1 1, .int .i64 1, .slice (some ⟨w.heap.size + 2, 0, none⟩) 1 1, .int .i64 3] 66, .cells #[.int .i64 3, .int .u8 1, .slice (some ⟨w.heap.size + 3, 0, none⟩) 3 3] 24, .cells #[.int .i64 0, .int .i64 1, .int .i64 2] 3]) (.agg #[.int .i64 3, .int .u8 1, .slice (some ⟨w.heap.size + 3, 0, none⟩) 3 3]) exG ∧ RInts Any (lays w [.cells #[.int .i64 0, .int .i64 1] 3, .cells #[.int .i64 1] 3, .cells #[.int .i64 2] 3, .cells #[.slice (some ⟨w.heap.size, 0, none⟩) 2 2, .int .i64 6, .slice (some ⟨w.heap.size + 1, 0, none⟩) 1 1, .int .i64 1, .slice (some ⟨w.heap.size + 2, 0, none⟩) 1 1, .int .i64 3] 66, .cells #[.int .i64 3, .int .u8 1, .slice (some ⟨w.heap.size + 3, 0, none⟩) 3 3] 24, .cells #[.int .i64 0, .int .i64 1, .int .i64 2] 3]) (.slice (some ⟨w.heap.size + 5, 0, none⟩) 3 3) [0, 1, 2] := by
 obtain ⟨W0, hW0⟩ : ∃ W0, W0 = lays w [.cells #[.int .i64 0, .int .i64 1] 3, .cells #[.int .i64 1] 3, .cells #[.int .i64 2] 3, .cells #[.slice (some ⟨w.heap.size, 0, none⟩) 2 2, .int .i64 6, .slice (some ⟨w.heap.size + 1, 0, none⟩) 1 1, .int .i64 1, .slice (some ⟨w.heap.size + 2, 0, none⟩) 1 1, .int .i64 3] 66, .cells #[.int .i64 3, .int .u8 1, .slice (some ⟨w.heap.size + 3, 0, none⟩) 3 3] 24, .cells #[.int .i64 0, .int .i64 1, .int .i64 2] 3] := ⟨_, rfl⟩
 have g0 : W0.heap[w.heap.size + 0]? = some (.cells #[.int .i64 0, .int .i64 1] 3 (0, 0)) := by rw [hW0]; exact lays_get _ w 0 rfl
 have g1 : W0.heap[w.heap.size + 1]? = some (.cells #[.int .i64 1] 3 (0, 0)) := by rw [hW0]; exact lays_get _ w 1 rfl
 have g2 : W0.heap[w.heap.size + 2]? = some (.cells #[.int .i64 2] 3 (0, 0)) := by rw [hW0]; exact lays_get _ w 2 rfl
 have g3 : W0.heap[w.heap.size + 3]? = some (.cells #[.slice (some ⟨w.heap.size, 0, none⟩) 2 2, .int .i64 6, .slice (some ⟨w.heap.size + 1, 0, none⟩) 1 1, .int .i64 1, .slice (some ⟨w.heap.size + 2, 0, none⟩) 1 1, .int .i64 3] 66 (0, 0)) := by rw [hW0]; exact lays_get _ w 3 rfl
 have g4 : W0.heap[w.heap.size + 4]? = some (.cells #[.int .i64 3, .int .u8 1, .slice (some ⟨w.heap.size + 3, 0, none⟩) 3 3] 24 (0, 0)) := by rw [hW0]; exact lays_get _ w 4 rfl
 have g5 : W0.heap[w.heap.size + 5]? = some (.cells #[.int .i64 0, .int .i64 1, .int .i64 2] 3 (0, 0)) := by rw [hW0]; exact lays_get _ w 5 rfl
 have r0 : RInts Any W0 (.slice (some ⟨w.heap.size, 0, none⟩) 2 2) [0, 1] := litInts (xs := [0, 1]) g0 (by decide) (by decide)
 have r1 : RInts Any W0 (.slice (some ⟨w.heap.size + 1, 0, none⟩) 1 1) [1] := litInts (xs := [1]) g1 (by decide) (by decide)
 have r2 : RInts Any W0 (.slice (some ⟨w.heap.size + 2, 0, none⟩) 1 1) [2] := litInts (xs := [2]) g2 (by decide) (by decide)
 have r5 : RInts Any W0 (.slice (some ⟨w.heap.size + 5, 0, none⟩) 3 3) [0, 1, 2] := litInts (xs := [0, 1, 2]) g5 (by decide) (by decide)
 rw [← hW0]
 have rp : RRows Any W0 (.slice (some ⟨w.heap.size + 3, 0, none⟩) 3 3) exG.rows := RSl.laidN (cells := [.slice (some ⟨w.heap.size, 0, none⟩) 2 2, .int .i64 6] ++ ([.slice (some ⟨w.heap.size + 1, 0, none⟩) 1 1, .int .i64 1] ++ [.slice (some ⟨w.heap.size + 2, 0, none⟩) 1 1, .int .i64 3])) (xs := ([⟨[0, 1], 6⟩] : List Row) ++ (([⟨[1], 1⟩] : List Row) ++ ([⟨[2], 3⟩] : List Row))) trivial g3 (Dec.append (rrowA (r := ⟨[0, 1], 6⟩) r0 (by decide)) (Dec.append (rrowA (r := ⟨[1], 1⟩) r1 (by decide)) (rrowA (r := ⟨[2], 3⟩) r2 (by decide)))) (by decide)
 exact ⟨⟨_, 3, rfl, by decide, by decide, rp⟩, r5⟩
theorem litRnd3 {W : World} {g : Nat} {e : TypeId} {a0 an ad a1 a2 b0 bn bd b1 b2 c0 cn cd c1 c2 : Value} {x y z : Rnd} (h : W.heap[g]? = some (.cells #[a0, .bool x.lost.neg, an, ad, a1, a2, b0, .bool y.lost.neg, bn, bd, b1, b2, c0, .bool z.lost.neg, cn, cd, c1, c2] e (0, 0)))
  (hx : dRnd Any W [a0, .bool x.lost.neg, an, ad, a1, a2] x) (hy : dRnd Any W [b0, .bool y.lost.neg, bn, bd, b1, b2] y) (hz : dRnd Any W [c0, .bool z.lost.neg, cn, cd, c1, c2] z) : RRnds Any W (.slice (some ⟨g, 0, none⟩) 3 3) [x, y, z] :=
 RSl.laidN (cells := [a0, .bool x.lost.neg, an, ad, a1, a2] ++ ([b0, .bool y.lost.neg, bn, bd, b1, b2] ++ [c0, .bool z.lost.neg, cn, cd, c1, c2])) (xs := [x] ++ ([y] ++ [z])) trivial h (Dec.append (Dec.single rfl hx) (Dec.append (Dec.single rfl hy) (Dec.single rfl hz))) (by simp)
set_option maxHeartbeats 8000000 in
set_option maxRecDepth 100000 in
theorem wakes18 (w : World) : Calls Tryz.prog 14 #[] w fun e w' => e = .returned (.bool true) ∧ Below w.heap.size w w' := by
 obtain ⟨hp, hl⟩ := wakg_lays w
 obtain ⟨W0, hW0⟩ : ∃ W0, W0 = lays w [.cells #[.int .i64 0, .int .i64 1] 3, .cells #[.int .i64 1] 3, .cells #[.int .i64 2] 3, .cells #[.slice (some ⟨w.heap.size, 0, none⟩) 2 2, .int .i64 6, .slice (some ⟨w.heap.size + 1, 0, none⟩) 1 1, .int .i64 1, .slice (some ⟨w.heap.size + 2, 0, none⟩) 1 1, .int .i64 3] 66, .cells #[.int .i64 3, .int .u8 1, .slice (some ⟨w.heap.size + 3, 0, none⟩) 3 3] 24, .cells #[.int .i64 0, .int .i64 1, .int .i64 2] 3] := ⟨_, rfl⟩
 have g4 : W0.heap[w.heap.size + 4]? = some (.cells #[.int .i64 3, .int .u8 1, .slice (some ⟨w.heap.size + 3, 0, none⟩) 3 3] 24 (0, 0)) := by rw [hW0]; exact lays_get _ w 4 rfl
 have hbW : Below w.heap.size w W0 := by rw [hW0]; exact lays_below _ w
 rw [← hW0] at hp hl
 have h1 := (greCount Any Any _ _ exG 2 [0, 1, 2] W0 hp hl (by decide)).mono fun e w' hh => GivesE.open hh
 rw [exg1, exg4] at h1
 have h2 := fun (W : World) (hW : Below W0.heap.size W0 W) => greQuota Any _ exG 2 W (hp.same (.of_below hW))
 rw [exg5.1, exg5.2.1] at h2
 have h3 := fun (W : World) => grePass 1000000000 6000000000 4000000000 W (by decide) (by decide)
 rw [exg6.1, exg6.2.1] at h3
 have h4 := fun (W : World) (hW : Below W0.heap.size W0 W) (v : Value) (hv : RInts Any W v [0, 1, 2]) => (greCount Any Any _ v exG 4 [0, 1, 2] W (hp.same (.of_below hW)) hv (by decide)).mono fun e w' hh => GivesE.open hh
 rw [exg2] at h4
 have h5 := fun (W : World) => (greCount Any Any (.agg #[.int .i64 0, .int .u8 0, .slice none 0 0]) (.slice none 0 0) ⟨0, 0, []⟩ 1 [] W ⟨_, 0, rfl, by decide, by decide, RSl.nil⟩ RSl.nil (by decide)).mono fun e w' hh => GivesE.open hh
 rw [exg3] at h5
 have h6 := fun (W : World) (hW : Below W0.heap.size W0 W) => greQuota Any _ exG 0 W (hp.same (.of_below hW))
 rw [exg5.2.2.1, exg5.2.2.2] at h6
 have h7 := fun (W : World) => grePass 1 1 2 W (by decide) (by decide)
 rw [exg6.2.2.1] at h7
 have h8 := fun (W : World) => grePass 1 0 0 W (by decide) (by decide)
 rw [exg6.2.2.2] at h8
 have hv7 : passV 1 1 2 = 0 := by decide
 have hv8 : passV 1 0 0 = 0 := by decide
 rw [hv7] at h7
 rw [hv8] at h8
 rw [hW0] at h1
 have HP1 := Lib.hid h1; have HP2 := Lib.hid h2; have HP3 := Lib.hid h3; have HP4 := Lib.hid h4; have HP5 := Lib.hid h5; have HP6 := Lib.hid h6; have HP7 := Lib.hid h7; have HP8 := Lib.hid h8
 have HW0 := Lib.hid hW0; have G4 := Lib.hid g4; have HbW := Lib.hid hbW
 have st0 := Lib.hid True.intro
 clear h1 h2 h3 h4 h5 h6 h7 h8 hp hl hW0 g4 hbW hv7 hv8
 go_enter Tryz.func14, Tryz.ntmps14
 go_upto_region 11 with (first
  | (have := st10; go_at_call 60; clear st10; refine (l18Round Any _ [4000000000, 0, 3000000000] 3000000000 (some ⟨w10.heap.size + 1, 0, none⟩) 1 1 none 0 0 ((w10.alloc (.cells #[.int .i64 4000000000, .int .i64 0, .int .i64 3000000000] 3)).alloc (.cells #[.int .i64 2] 3)) (litInts (xs := [4000000000, 0, 3000000000]) (lays_get [.cells #[.int .i64 4000000000, .int .i64 0, .int .i64 3000000000] 3, .cells #[.int .i64 2] 3] w10 0 rfl) (by decide) (by decide)) (by decide) (by decide) (by decide)).mono ?_; rintro e w11 ⟨h11a, h11n, h11c, n11a, n11n, n11c, d11a, d11n, d11c, rfl, kh, kn, kd, hb⟩; have C11 := Lib.hid (bel_st (B := w10.heap.size) (w := w10) (by go_grown) hb (by go_size)); replace q0 := bt q0 C11.out; replace hsz := q0.size; have HH11 := Lib.hid (RSl.mono (fun _ _ _ hd => dRt.mono (fun _ _ => trivial) hd) (fun _ _ => trivial) kh : RRts Any w11 _ _); have HN11 := Lib.hid (RU.mono (fun _ _ => trivial) kn : RU Any w11 _ _); have HD11 := Lib.hid (RU.mono (fun _ _ => trivial) kd : RU Any w11 _ _); clear kh kn kd; have HE11 := Lib.hid (litInts (W := w11) (g := w10.heap.size + 1) (xs := [2]) (lay_at (w := w10) (os := [.cells #[.int .i64 4000000000, .int .i64 0, .int .i64 3000000000] 3, .cells #[.int .i64 2] 3]) hb 1 rfl) (by decide) (by decide)); clear hb; have st11 := Lib.hid True.intro; clear this)
  | (have := st9; go_at_call 60; clear st9; refine (l18Round Any _ [4000000000, 2999999998, 3000000000] 2 none 0 0 (some ⟨w9.heap.size + 1, 0, none⟩) 1 1 ((w9.alloc (.cells #[.int .i64 4000000000, .int .i64 2999999998, .int .i64 3000000000] 3)).alloc (.cells #[.int .i64 1] 3)) (litInts (xs := [4000000000, 2999999998, 3000000000]) (lays_get [.cells #[.int .i64 4000000000, .int .i64 2999999998, .int .i64 3000000000] 3, .cells #[.int .i64 1] 3] w9 0 rfl) (by decide) (by decide)) (by decide) (by decide) (by decide)).mono ?_; rintro e w10 ⟨h10a, h10n, h10c, n10a, n10n, n10c, d10a, d10n, d10c, rfl, kh, kn, kd, hb⟩; have C10 := Lib.hid (bel_st (B := w9.heap.size) (w := w9) (by go_grown) hb (by go_size)); replace q0 := bt q0 C10.out; replace hsz := q0.size; have HH10 := Lib.hid (RSl.mono (fun _ _ _ hd => dRt.mono (fun _ _ => trivial) hd) (fun _ _ => trivial) kh : RRts Any w10 _ _); have HN10 := Lib.hid (RU.mono (fun _ _ => trivial) kn : RU Any w10 _ _); have HD10 := Lib.hid (RU.mono (fun _ _ => trivial) kd : RU Any w10 _ _); clear kh kn kd; have HE10 := Lib.hid (litInts (W := w10) (g := w9.heap.size + 1) (xs := [1]) (lay_at (w := w9) (os := [.cells #[.int .i64 4000000000, .int .i64 2999999998, .int .i64 3000000000] 3, .cells #[.int .i64 1] 3]) hb 1 rfl) (by decide) (by decide)); clear hb; have st10 := Lib.hid True.intro; clear this)
  | (have := st8; go_at_call 60; clear st8; refine (l18Round Any _ [6000000000, 1000000000, 3000000000] 0 (some ⟨w8.heap.size + 2, 0, none⟩) 1 1 none 0 0 (((w8.alloc (.cells #[.int .i64 0, .int .i64 2] 3)).alloc (.cells #[.int .i64 6000000000, .int .i64 1000000000, .int .i64 3000000000] 3)).alloc (.cells #[.int .i64 0] 3)) (litInts (xs := [6000000000, 1000000000, 3000000000]) (lays_get [.cells #[.int .i64 0, .int .i64 2] 3, .cells #[.int .i64 6000000000, .int .i64 1000000000, .int .i64 3000000000] 3, .cells #[.int .i64 0] 3] w8 1 rfl) (by decide) (by decide)) (by decide) (by decide) (by decide)).mono ?_; rintro e w9 ⟨h9a, h9n, h9c, n9a, n9n, n9c, d9a, d9n, d9c, rfl, kh, kn, kd, hb⟩; have C9 := Lib.hid (bel_st (B := w8.heap.size) (w := w8) (by go_grown) hb (by go_size)); replace q0 := bt q0 C9.out; replace hsz := q0.size; have HH9 := Lib.hid (RSl.mono (fun _ _ _ hd => dRt.mono (fun _ _ => trivial) hd) (fun _ _ => trivial) kh : RRts Any w9 _ _); have HN9 := Lib.hid (RU.mono (fun _ _ => trivial) kn : RU Any w9 _ _); have HD9 := Lib.hid (RU.mono (fun _ _ => trivial) kd : RU Any w9 _ _); clear kh kn kd; have HE9 := Lib.hid (litInts (W := w9) (g := w8.heap.size + 2) (xs := [0]) (lay_at (w := w8) (os := [.cells #[.int .i64 0, .int .i64 2] 3, .cells #[.int .i64 6000000000, .int .i64 1000000000, .int .i64 3000000000] 3, .cells #[.int .i64 0] 3]) hb 2 rfl) (by decide) (by decide)); have HX9 := Lib.hid (litInts (W := w9) (g := w8.heap.size + 0) (xs := [0, 2]) (lay_at (w := w8) (os := [.cells #[.int .i64 0, .int .i64 2] 3, .cells #[.int .i64 6000000000, .int .i64 1000000000, .int .i64 3000000000] 3, .cells #[.int .i64 0] 3]) hb 0 rfl) (by decide) (by decide)); clear hb; have st9 := Lib.hid True.intro; clear this)
  | (have := st7; go_at_call 20; clear st7; refine (HP8.out _).mono ?_; rintro e w8 ⟨rfl, hb⟩; have C8 := Lib.hid (bel_st (B := w7.heap.size) (w := w7) (by go_grown) hb (by go_size)); replace q0 := bt q0 C8.out; replace hsz := q0.size; clear hb; have st8 := Lib.hid True.intro; clear this)
  | (have := st6; go_at_call 20; clear st6; refine (HP7.out _).mono ?_; rintro e w7 ⟨rfl, hb⟩; have C7 := Lib.hid (bel_st (B := w6.heap.size) (w := w6) (by go_grown) hb (by go_size)); replace q0 := bt q0 C7.out; replace hsz := q0.size; clear hb; have st7 := Lib.hid True.intro; clear this)
  | (have := st5; go_at_call 18; clear st5; refine (HP6.out _ (by go_grown)).mono ?_; rintro e w6 ⟨rfl, hb⟩; have C6 := Lib.hid (bel_st (B := w5.heap.size) (w := w5) (by go_grown) hb (by go_size)); replace q0 := bt q0 C6.out; replace hsz := q0.size; clear pa5 pb5 pc5 pl5; clear hb; have st6 := Lib.hid True.intro; clear this)
  | (have := st4; go_at_call 16; clear st4; refine (HP5.out _).mono ?_; rintro e w5 ⟨b51, m51, c51, b52, m52, c52, b53, m53, c53, rfl, kv, hb⟩; have C5 := Lib.hid (bel_st (B := w4.heap.size) (w := w4) (by go_grown) hb (by go_size)); replace q0 := bt q0 C5.out; replace hsz := q0.size; clear kv; obtain ⟨pa5, pb5, pc5, pl5⟩ := box3 G4.out q0; clear hb; have st5 := Lib.hid True.intro; clear this)
  | (have := st3; go_at_call 16; clear st3; refine (HP4.out (w3.alloc (.cells #[.int .i64 0, .int .i64 1, .int .i64 2] 3)) (by go_grown) (.slice (some ⟨w3.heap.size, 0, none⟩) 3 3) (litInts (xs := [0, 1, 2]) (lays_get [.cells #[.int .i64 0, .int .i64 1, .int .i64 2] 3] w3 0 rfl) (by decide) (by decide))).mono ?_; rintro e w4 ⟨b41, m41, c41, b42, m42, c42, b43, m43, c43, rfl, kv, hb⟩; have C4 := Lib.hid (bel_st (B := w3.heap.size) (w := w3) (by go_grown) hb (by go_size)); replace q0 := bt q0 C4.out; replace hsz := q0.size; clear kv; clear pa3 pb3 pc3 pl3; clear hb; have st4 := Lib.hid True.intro; clear this)
  | (have := st2; go_at_call 20; clear st2; refine (HP3.out _).mono ?_; rintro e w3 ⟨rfl, hb⟩; have C3 := Lib.hid (bel_st (B := w2.heap.size) (w := w2) (by go_grown) hb (by go_size)); replace q0 := bt q0 C3.out; replace hsz := q0.size; obtain ⟨pa3, pb3, pc3, pl3⟩ := box3 G4.out q0; clear hb; have st3 := Lib.hid True.intro; clear this)
  | (have := st1; go_at_call 18; clear st1; refine (HP2.out _ (by go_grown)).mono ?_; rintro e w2 ⟨rfl, hb⟩; have C2 := Lib.hid (bel_st (B := w1.heap.size) (w := w1) (by go_grown) hb (by go_size)); replace q0 := bt q0 C2.out; replace hsz := q0.size; have GB1 := Lib.hid (show w2.heap[w1.heap.size]? = some (.cells #[.slice b11 m11 c11, .slice b12 m12 c12, .slice b13 m13 c13] 32 (0, 0)) from lay_at (w := w1) (os := [.cells #[.slice b11 m11 c11, .slice b12 m12 c12, .slice b13 m13 c13] 32]) hb 0 rfl); clear pa1 pb1 pc1 pl1; clear hb; have st2 := Lib.hid True.intro; clear this)
  | (have := st0; go_at_call 16; clear st0; refine (HP1.out).mono ?_; rintro e w1 ⟨b11, m11, c11, b12, m12, c12, b13, m13, c13, rfl, kv, hb⟩; rw [← HW0.out] at hb; have q0 := hb; have hsz := q0.size; have HV1 := Lib.hid (kv.mono (fun _ _ => trivial) : VOutc Any w1 (.agg #[.slice b11 m11 c11, .slice b12 m12 c12, .slice b13 m13 c13]) _); clear kv; obtain ⟨pa1, pb1, pc1, pl1⟩ := box3 G4.out q0; clear hb; have st1 := Lib.hid True.intro; clear this))

 obtain ⟨X, hX⟩ : ∃ X, X = ((w11.alloc (.cells #[.slice h9a h9n h9c, .bool false, .slice n9a n9n n9c, .slice d9a d9n d9c, .slice (some ⟨w8.heap.size + 2, 0, none⟩) 1 1, .slice none 0 0, .slice h10a h10n h10c, .bool false, .slice n10a n10n n10c, .slice d10a d10n d10c, .slice none 0 0, .slice (some ⟨w9.heap.size + 1, 0, none⟩) 1 1, .slice h11a h11n h11c, .bool false, .slice n11a n11n n11c, .slice d11a d11n d11c, .slice (some ⟨w10.heap.size + 1, 0, none⟩) 1 1, .slice none 0 0] 58)).alloc (.cells #[.slice (some ⟨w8.heap.size, 0, none⟩) 2 2, .slice (some ⟨w11.heap.size, 0, none⟩) 3 3, .slice none 0 0] 32)) := ⟨_, rfl⟩
 have g0 : X.heap[w11.heap.size + 0]? = some (.cells #[.slice h9a h9n h9c, .bool false, .slice n9a n9n n9c, .slice d9a d9n d9c, .slice (some ⟨w8.heap.size + 2, 0, none⟩) 1 1, .slice none 0 0, .slice h10a h10n h10c, .bool false, .slice n10a n10n n10c, .slice d10a d10n d10c, .slice none 0 0, .slice (some ⟨w9.heap.size + 1, 0, none⟩) 1 1, .slice h11a h11n h11c, .bool false, .slice n11a n11n n11c, .slice d11a d11n d11c, .slice (some ⟨w10.heap.size + 1, 0, none⟩) 1 1, .slice none 0 0] 58 (0, 0)) := by rw [hX]; exact lays_get [.cells #[.slice h9a h9n h9c, .bool false, .slice n9a n9n n9c, .slice d9a d9n d9c, .slice (some ⟨w8.heap.size + 2, 0, none⟩) 1 1, .slice none 0 0, .slice h10a h10n h10c, .bool false, .slice n10a n10n n10c, .slice d10a d10n d10c, .slice none 0 0, .slice (some ⟨w9.heap.size + 1, 0, none⟩) 1 1, .slice h11a h11n h11c, .bool false, .slice n11a n11n n11c, .slice d11a d11n d11c, .slice (some ⟨w10.heap.size + 1, 0, none⟩) 1 1, .slice none 0 0] 58, .cells #[.slice (some ⟨w8.heap.size, 0, none⟩) 2 2, .slice (some ⟨w11.heap.size, 0, none⟩) 3 3, .slice none 0 0] 32] w11 0 rfl
 have g1 : X.heap[w11.heap.size + 1]? = some (.cells #[.slice (some ⟨w8.heap.size, 0, none⟩) 2 2, .slice (some ⟨w11.heap.size, 0, none⟩) 3 3, .slice none 0 0] 32 (0, 0)) := by rw [hX]; exact lays_get [.cells #[.slice h9a h9n h9c, .bool false, .slice n9a n9n n9c, .slice d9a d9n d9c, .slice (some ⟨w8.heap.size + 2, 0, none⟩) 1 1, .slice none 0 0, .slice h10a h10n h10c, .bool false, .slice n10a n10n n10c, .slice d10a d10n d10c, .slice none 0 0, .slice (some ⟨w9.heap.size + 1, 0, none⟩) 1 1, .slice h11a h11n h11c, .bool false, .slice n11a n11n n11c, .slice d11a d11n d11c, .slice (some ⟨w10.heap.size + 1, 0, none⟩) 1 1, .slice none 0 0] 58, .cells #[.slice (some ⟨w8.heap.size, 0, none⟩) 2 2, .slice (some ⟨w11.heap.size, 0, none⟩) 3 3, .slice none 0 0] 32] w11 1 rfl
 have hb11 : Below w11.heap.size w11 X := by rw [hX]; exact lays_below [.cells #[.slice h9a h9n h9c, .bool false, .slice n9a n9n n9c, .slice d9a d9n d9c, .slice (some ⟨w8.heap.size + 2, 0, none⟩) 1 1, .slice none 0 0, .slice h10a h10n h10c, .bool false, .slice n10a n10n n10c, .slice d10a d10n d10c, .slice none 0 0, .slice (some ⟨w9.heap.size + 1, 0, none⟩) 1 1, .slice h11a h11n h11c, .bool false, .slice n11a n11n n11c, .slice d11a d11n d11c, .slice (some ⟨w10.heap.size + 1, 0, none⟩) 1 1, .slice none 0 0] 58, .cells #[.slice (some ⟨w8.heap.size, 0, none⟩) 2 2, .slice (some ⟨w11.heap.size, 0, none⟩) 3 3, .slice none 0 0] 32] w11
 rw [← hX]
 have hR := litRnd3 (x := ⟨[6000000000, 1000000000, 3000000000].map bill, bill 0, [0], []⟩) (y := ⟨[4000000000, 2999999998, 3000000000].map bill, bill 2, [], [1]⟩) (z := ⟨[4000000000, 0, 3000000000].map bill, bill 3000000000, [2], []⟩) g0
  ⟨_, _, _, _, _, rfl, RRts.same (.of_below (bt (bt C10.out C11.out) hb11)) HH9.out, (HN9.out.same (.of_below (bt C10.out C11.out))).same (.of_below hb11), (HD9.out.same (.of_below (bt C10.out C11.out))).same (.of_below hb11), (HE9.out.same (.of_below (bt C10.out C11.out))).same (.of_below hb11), RSl.nil⟩
  ⟨_, _, _, _, _, rfl, RRts.same (.of_below (bt C11.out hb11)) HH10.out, (HN10.out.same (.of_below C11.out)).same (.of_below hb11), (HD10.out.same (.of_below C11.out)).same (.of_below hb11), RSl.nil, (HE10.out.same (.of_below C11.out)).same (.of_below hb11)⟩
  ⟨_, _, _, _, _, rfl, RRts.same (.of_below hb11) HH11.out, HN11.out.same (.of_below hb11), HD11.out.same (.of_below hb11), HE11.out.same (.of_below hb11), RSl.nil⟩
 have hV : VOutc Any X (.agg #[.slice (some ⟨w8.heap.size, 0, none⟩) 2 2, .slice (some ⟨w11.heap.size, 0, none⟩) 3 3, .slice none 0 0]) exGO := ⟨_, _, _, rfl, (HX9.out.same (.of_below (bt C10.out C11.out))).same (.of_below hb11), hR, RSl.nil⟩
 have hV1 := HV1.out.same (w' := X) (.of_below (bt (bt C2.out (bt C3.out (bt C4.out (bt C5.out (bt C6.out (bt C7.out (bt C8.out (bt C9.out (bt C10.out C11.out))))))))) hb11))
 have hS := fun W (hW : Below X.heap.size X W) => r11Same_eq Any Any _ _ exGO W (hV1.same (.of_below hW)) (hV.same (.of_below hW))
 have HS := Lib.hid hS
 have hQ := Lib.hid (bt q0 hb11)
 obtain ⟨x0, x1, x2, xl⟩ := box3 GB1.out (bt (bt C3.out (bt C4.out (bt C5.out (bt C6.out (bt C7.out (bt C8.out (bt C9.out (bt C10.out C11.out)))))))) hb11)
 obtain ⟨y0, y1, y2, yl⟩ := box3 g1 (Below.refl _ X)
 clear hS hV hV1 hR g0 g1 hX hb11
 go_wp2_with (go_at_call 22; refine (HS.out _ (Below.refl _ _)).mono ?_; rintro e w12 ⟨rfl, hb⟩; have q1 := bt hQ.out hb)
 go_ret
 exact ⟨rfl, bt HbW.out q1⟩
end Go.Proofs.YthcbkhfmdginiaaGreat

namespace Go.Proofs.YthcbkhfmdginiaaGreat
open Go Go.RowKit Go.Shelf Limb

theorem own_two {base : Nat} {w w' : World} {va vb va' : Value} {ys : List Int} (hB : Own base 3 1 (dInt .i64) w vb ys) (hap : ApartV va vb) (hg : w.grownBy w' va.ownBlock) (hat : va'.ownBlock = va.ownBlock ∨ va'.ownBlock = some w.heap.size) :
  Own base 3 1 (dInt .i64) w' vb ys ∧ ApartV va' vb := by
 refine ⟨Own.aside hB hg ?_, ?_⟩
 ·rcases hap.or with h | h
  ·cases hv : vb.ownBlock with
   | none => exact .inl rfl
   | some b => exact .inr fun e => by rw [h] at e; cases e
  ·exact .inr fun e => h e.symm
 ·intro b hb
  rcases hat with e | e
  ·exact hap b (e ▸ hb)
  ·intro hv
   rw [e] at hb
   have := (Own.lt hB b hv).2
   cases hb
   omega
theorem ApartV.symm {u v : Value} (h : ApartV u v) : ApartV v u := fun b hb e => h b e hb
theorem ApartV.nil (v : Value) : ApartV v (.slice none 0 0) := fun _ _ e => by cases e
section
variable {P : Program} (w : World)
theorem wpList_appT {ops : Array Oper} {rest : List Oper} {o : Oper} {a : Act} {Q : Exit → Act → World → Prop} {t : TypeId} (hinfo : (P.info? 3).map (fun i => (i.zero, i.size, i.bytes)) = some (some (.int .i64 0), 1, 8))
  (hgd : o.guard = none) {s x : Operand} (ho : o.op = .call { callee := .builtin .append, args := #[s, x], argTypes := #[t, t] }) (ht : P.underlying t = some (.slice 3)) {S : Nat → Prop} {X : World}
  {va vb u : Value} {xs ys zs : List Int} (hown : Own X.heap.size 3 1 (dInt .i64) w va xs) (hoth : Own X.heap.size 3 1 (dInt .i64) w vb ys) (hap : ApartV va vb) (hs : a.eval s = va) (hu : RInts S w u zs) (hx : a.eval x = u)
  (h1 : xs.length ≤ 1000000) (h2 : zs.length ≤ 1000000) (hb : Below X.heap.size X w)
  (h : ∀ a' n' c' w', Own X.heap.size 3 1 (dInt .i64) w' (.slice a' n' c') (xs ++ zs) → Own X.heap.size 3 1 (dInt .i64) w' vb ys → ApartV (.slice a' n' c') vb → w.grownBy w' va.ownBlock → ((Value.slice a' n' c').ownBlock = va.ownBlock ∨ (Value.slice a' n' c').ownBlock = some w.heap.size) → Below X.heap.size X w' →
   wpList P ops Q rest (a.put o.dst (.slice a' n' c')) w') : wpList P ops Q (o :: rest) a w := by
 refine wpList_appV w hinfo hgd ho ht ⟨rfl, by omega, by omega⟩ (dInt.one _) (dInt.stable (fun _ => False) .i64) X.heap.size hown hs hu hx (by omega) hb.size ?_
 intro a' n' c' w' hg hat ho'
 obtain ⟨k1, k2⟩ := own_two hoth hap hg hat
 exact h a' n' c' w' (ho' (fun _ _ h => h.elim)) k1 k2 hg hat (hb.grown hg hb.size fun b e => (Own.lt hown b e).1)
end
end Go.Proofs.YthcbkhfmdginiaaGreat
