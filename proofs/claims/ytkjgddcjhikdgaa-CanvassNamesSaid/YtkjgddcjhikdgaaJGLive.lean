/- Texts of one claim, put together: RatN, Nam27. -/
import Derived.Test.YtkjgddcjhikdgaaJGCan
import Derived.Test.YtkjgddcjhikdgaaJGRat
import Derived.Test.YtkjgddcjhikdgaaJGRep

/- ratio.Of at -1 and 2, and ratio.Whole at 0. -/
namespace Go.Proofs.Ytkjgddcjhikdgaa
open Go Go.RowKit Go.Shelf Limb

theorem ratSizeM (w : World) : Calls Try.prog 103 #[.int .i64 (-1)] w fun e w' => e = .returned (.int .u64 1) ∧ w = w' := by
  go_enter Try.func103, Try.ntmps103
  go_wp2
  go_ret
  exact ⟨rfl, rfl⟩
set_option maxHeartbeats 2000000 in
theorem ratOfM (w : World) :
    Calls Try.prog 57 #[.int .i64 (-1), .int .i64 2] w fun e w' => ∃ a c a' c', e = .returned (.tuple #[.agg #[.bool true, .slice a 1 c, .slice a' 1 c'], .int .i64 0]) ∧ RU Any w' (.slice a 1 c) [1] ∧ RU Any w' (.slice a' 1 c') [2] ∧ Below w.heap.size w w' := by
  have l1 : lim 1 = [1] := lim_small (n := 1) (by omega) (by omega)
  have l2 : lim 2 = [2] := lim_small (n := 2) (by omega) (by omega)
  obtain ⟨Z, hZ⟩ : ∃ Z, Z = Obj.cells #[.bool false, .slice none 0 0, .slice none 0 0] 81 (0, 0) := ⟨_, rfl⟩
  have hb0 := below_new w Z
  have hgA : (w.alloc Z).heap[w.heap.size]? = some (.cells #[.bool false, .slice none 0 0, .slice none 0 0] 81 (0, 0)) := by rw [hZ]; exact box_new w _
  have hSn := fun W => ratSizeM W
  have hSd : ∀ W, Calls Try.prog 103 #[.int .i64 2] W fun e w' => e = .returned (.int .u64 2) ∧ W = w' := fun W => ratSize 2 W (by omega)
  have hOn : ∀ W, Calls Try.prog 102 #[.int .u64 1] W fun e w' => ∃ a c, e = .returned (.slice a (lim 1).length c) ∧ NumAt w' (.slice a (lim 1).length c) 1 ∧ Below W.heap.size W w' := fun W => natOf 1 W (by omega)
  have hOd : ∀ W, Calls Try.prog 102 #[.int .u64 2] W fun e w' => ∃ a c, e = .returned (.slice a (lim 2).length c) ∧ NumAt w' (.slice a (lim 2).length c) 2 ∧ Below W.heap.size W w' := fun W => natOf 2 W (by omega)
  have hL := fun W u v (h1 : NumAt W u 1) (h2 : NumAt W v 2) => ratLowest true u v 1 2 W h1 h2 (by rw [l1]; simp) (by rw [l2]; simp) (by omega)
  simp only [show Nat.gcd 1 2 = 1 from by decide, show 1 / 1 = 1 from rfl, show 2 / 1 = 2 from rfl, l1, l2, List.length_cons, List.length_nil, Nat.zero_add, show (true && decide ((1 : Nat) ≠ 0)) = true from rfl] at hL hOn hOd
  have hfin : ∀ (w3 : World) a c a' c', Below (w.alloc Z).heap.size (w.alloc Z) w3 → NumAt w3 (.slice a 1 c) 1 → NumAt w3 (.slice a' 1 c') 2 → ∀ w', Same (fun b => b ≠ w.heap.size) w3 w' → RU Any w' (.slice a 1 c) [1] ∧ RU Any w' (.slice a' 1 c') [2] := fun w3 a c a' c' hW k1 k2 w' hs => by
    obtain ⟨g1, -, -⟩ := own_box hW (by simp) hgA
    have q1 := (k1.kept g1 (bss_ne _ _ _ (by simp) (by simp)) hs).ru
    have q2 := (k2.kept g1 (bss_ne _ _ _ (by simp) (by simp)) hs).ru
    rw [l1] at q1; rw [l2] at q2
    exact ⟨q1, q2⟩
  have hcell : ∀ w3, Below (w.alloc Z).heap.size (w.alloc Z) w3 → (∀ i, w3.cell? ⟨w.heap.size, i, none⟩ = (#[.bool false, .slice none 0 0, .slice none 0 0] : Array Value)[i]?) ∧ (∀ i, w3.frozen? ⟨w.heap.size, i, none⟩ = false) := fun w3 hW => by
    obtain ⟨-, g2, g3⟩ := own_box hW (by simp) hgA
    exact ⟨g2, g3⟩
  have hbz : ∀ w3, Below (w.alloc Z).heap.size (w.alloc Z) w3 → Below w.heap.size w w3 := fun w3 hW => hb0.trans (hW.mono (by simp))
  have HSn := Lib.hid hSn; have HSd := Lib.hid hSd; have HOn := Lib.hid hOn; have HOd := Lib.hid hOd; have HL := Lib.hid hL; have HF := Lib.hid hfin; have HC := Lib.hid hcell; have HZ := Lib.hid hbz
  clear hSn hSd hOn hOd hL hfin hcell hbz hb0 hgA l1 l2
  subst hZ
  go_enter Try.func57, Try.ntmps57
  go_wp2_with (first
    | (go_at_call 103; have := hbb1; refine (HSd.out _).mono ?_; rintro e w0 ⟨rfl, rfl⟩)
    | (go_at_call 103; refine (HSn.out _).mono ?_; rintro e w0 ⟨rfl, rfl⟩)
    | (go_at_call 102; have := hbb1; refine (HOd.out _).mono ?_; rintro e w2 ⟨a4, c4, rfl, hN4, hb2⟩; have hbb2 := hbb1.trans (hb2.mono hz1); have hz2 := hbb2.size; have HN3' := Lib.hid (HN3.out.same hb2); have HN4 := Lib.hid hN4; clear hN4)
    | (go_at_call 102; refine (HOn.out _).mono ?_; rintro e w1 ⟨a3, c3, rfl, hN3, hbb1⟩; have hz1 := hbb1.size; have HN3 := Lib.hid hN3; clear hN3)
    | (go_at_call 101; refine (HL.out _ _ _ HN3'.out HN4.out).mono ?_; rintro e w3 ⟨a5, c5, a6, c6, rfl, hN5, hN6, hb3⟩; have hbb3 := hbb2.trans (hb3.mono hz2); have HN5 := Lib.hid hN5; have HN6 := Lib.hid hN6; obtain ⟨hc3, hf3⟩ := HC.out _ hbb3; clear hN5 hN6))
  refine bodyPost_ret (v := .tuple #[.agg #[.bool true, .slice a5 1 c5, .slice a6 1 c6], .int .i64 0]) (by simp [results, Try.results57, go_sem, hc3]) rfl ⟨a5, c5, a6, c6, rfl, (HF.out _ _ _ _ _ hbb3 HN5.out HN6.out _ ?_).1, (HF.out _ _ _ _ _ hbb3 HN5.out HN6.out _ ?_).2, ?_⟩
  · exact (((Same.refl _ _).setCell (by simp) _).setCell (by simp) _).setCell (by simp) _
  · exact (((Same.refl _ _).setCell (by simp) _).setCell (by simp) _).setCell (by simp) _
  · exact ((((HZ.out _ hbb3).setCell (p := ⟨w.heap.size, 0, none⟩) (Nat.le_refl _) _).setCell (p := ⟨w.heap.size, 1, none⟩) (Nat.le_refl _) _).setCell (p := ⟨w.heap.size, 2, none⟩) (Nat.le_refl _) _)
theorem natZ (w : World) : Calls Try.prog 102 #[.int .u64 0] w fun e w' => ∃ a c, e = .returned (.slice a 0 c) ∧ RU Any w' (.slice a 0 c) [] ∧ Below w.heap.size w w' := by
  refine Calls.mono (show Calls Try.prog 102 #[.int .u64 0] w fun e w' => ∃ a c, e = .returned (.slice a (lim 0).length c) ∧ NumAt w' (.slice a (lim 0).length c) 0 ∧ Below w.heap.size w w' from natOf 0 w (by omega)) ?_
  rintro e w' ⟨a, c, rfl, h, hb⟩
  have l0 : lim 0 = [] := by kernel_rfl
  have h := h.ru
  rw [l0] at h ⊢
  exact ⟨a, c, rfl, h, hb⟩
set_option maxHeartbeats 1000000 in
theorem ratWhole0 (w : World) : Calls Try.prog 66 #[.int .i64 0] w fun e w' => ∃ a c a' c', e = .returned (.agg #[.bool false, .slice a 0 c, .slice a' 1 c']) ∧ RU Any w' (.slice a 0 c) [] ∧ RU Any w' (.slice a' 1 c') [1] ∧ Below w.heap.size w w' := by
  have hS : ∀ W, Calls Try.prog 103 #[.int .i64 0] W fun e w' => e = .returned (.int .u64 0) ∧ W = w' := fun W => ratSize 0 W (by omega)
  have hb0 := below_new w (.cells #[.bool false, .slice none 0 0, .slice none 0 0] 81)
  have g0 := box_new w (.cells #[.bool false, .slice none 0 0, .slice none 0 0] 81)
  have HS := Lib.hid hS; have Hg0 := Lib.hid g0
  clear hS g0
  go_enter Try.func66, Try.ntmps66
  go_wp2_with (first
    | (go_at_call 103; refine (HS.out _).mono ?_; rintro e w1 ⟨rfl, rfl⟩)
    | (go_at_call 102; refine (natZ _).mono ?_; rintro e w2 ⟨a2, c2, rfl, hN2, hb2⟩; have hz2 := hb2.size; have HN2 := Lib.hid hN2; clear hN2)
    | (go_at_call 117; refine (ratOne _).mono ?_; rintro e w3 ⟨g3, rfl, hN3, hb3⟩; have hb23 := hb2.trans (hb3.mono hz2); have HN3 := Lib.hid hN3; have HN2' := Lib.hid (HN2.out.below hb3); obtain ⟨q0, k0, f0⟩ := own_box hb23 (by simp) Hg0.out; have hlt := size_of_box q0; have Hq0 := Lib.hid q0; clear hN3 q0))
  refine bodyPost_ret (v := .agg #[.bool false, .slice a2 0 c2, .slice (some ⟨g3, 0, none⟩) 1 1]) (by simp [results, Try.results66, go_sem, k0]) rfl ⟨_, _, _, _, rfl, ?_, ?_, ?_⟩
  · exact RSl.mono (fun _ _ _ h => h) (fun _ _ => trivial) ((HN2'.out.avoid Hq0.out (bss_ne _ _ _ (by simp) (by simp))).same ((((Same.refl _ _).setCell (by simp) _).setCell (by simp) _).setCell (by simp) _))
  · exact RSl.mono (fun _ _ _ h => h) (fun _ _ => trivial) ((HN3.out.avoid Hq0.out (bss_ne _ _ _ (by simp) (by simp))).same ((((Same.refl _ _).setCell (by simp) _).setCell (by simp) _).setCell (by simp) _))
  · exact (((hb0.trans (hb23.mono (by simp))).setCell (p := ⟨w.heap.size, 0, none⟩) (Nat.le_refl _) _).setCell (p := ⟨w.heap.size, 1, none⟩) (Nat.le_refl _) _).setCell (p := ⟨w.heap.size, 2, none⟩) (Nat.le_refl _) _
end Go.Proofs.Ytkjgddcjhikdgaa

/- The calls of the law CanvassNames, each at its own arguments. -/
namespace Go.Proofs.Ytkjgddcjhikdgaa
open Go Go.RowKit Go.Shelf Limb

def xN : List Btc := [⟨⟨#[120]⟩, blanks 1⟩]
def yN : List Btc := [⟨⟨#[120]⟩, blanks 2⟩]
def zN : List Btc := [⟨⟨#[120]⟩, [⟨1, [1]⟩]⟩]
def pN : List Place := [⟨0, 0⟩]
def fN : List Fnd := [⟨2, ⟨#[120]⟩, 2, 1⟩]
def sN (n : Int) : List Slot := [⟨⟨#[120]⟩, n⟩]
def s2N : List Slot := [⟨⟨#[120]⟩, 0⟩, ⟨⟨#[120]⟩, 0⟩]
def s17N : List Slot := List.replicate 17 ⟨⟨#[]⟩, 0⟩
theorem fit_N1 : fitI xN yN 2 1 = 270 := by kernel_rfl
theorem fit_N2 : fitI xN zN 2 1 = 0 := by kernel_rfl
theorem pla_N : placesL xN zN = pN := by kernel_rfl
theorem rep_N1 : repI xN zN 2 1 [0, 0] = 2 := by kernel_rfl
theorem rep_N2 : repI xN zN 2 1 [1] = 2 := by kernel_rfl
theorem rep_N3 : repI xN zN 2 1 [0] = 0 := by kernel_rfl
theorem rep_N4 : repV xN zN 2 1 [0] = zN := by kernel_rfl
theorem rec_N1 : recoI [] xN 2 1 (-1) = 2 := by kernel_rfl
theorem rec_N2 : recoI (sN 2) xN 2 1 1 = 0 := by kernel_rfl
theorem rec_N3 : recoV (sN 2) xN 2 1 1 = fN := by kernel_rfl
theorem chk_N1 : chkS (sN 65) = 8 := by kernel_rfl
theorem chk_N2 : chkS s2N = 8 := by kernel_rfl
theorem chk_N3 : chkS s17N = 4 := by kernel_rfl
theorem due_N1 : dueR 0 1 true [1] [2] = (false, 8) := by kernel_rfl
theorem due_N2 : dueR 0 1 false [] [] = (false, 8) := by kernel_rfl
theorem due_N3 : dueR (-1) 1 false [] [1] = (false, 2) := by kernel_rfl
theorem due_N4 : dueR 1 1000001 false [] [1] = (false, 2) := by kernel_rfl
theorem due_N5 : dueR 0 0 false [] [1] = (true, 0) := by kernel_rfl
theorem due_N6 : dueR 0 1 false [] [1] = (true, 0) := by kernel_rfl
theorem smallX : Small xN := ⟨by decide, by decide⟩
theorem smallY : Small yN := ⟨by decide, by decide⟩
theorem smallZ : Small zN := ⟨by decide, by decide⟩
theorem cmp_N1 (p q : Value) (w : World) (hp : RBtcs Any w p xN) (hq : RBtcs Any w q yN) : Calls Try.prog 47 #[p, q, .int .i64 2, .int .u8 1] w fun e w' => ∃ v, e = .returned (.tuple #[v, .int .i64 270]) ∧ Below w.heap.size w w' := by
  refine (canvassCompare Any Any p q xN yN 2 1 w hp hq smallX smallY.1).mono ?_
  rintro e w' ⟨v, he, -, hb⟩
  rw [fit_N1] at he
  exact ⟨v, he, hb⟩
theorem cmp_N2 (p q : Value) (w : World) (hp : RBtcs Any w p xN) (hq : RBtcs Any w q zN) : Calls Try.prog 47 #[p, q, .int .i64 2, .int .u8 1] w fun e w' => ∃ a c, e = .returned (.tuple #[.slice a 1 c, .int .i64 0]) ∧ RSl Any 2 dPlace w' (.slice a 1 c) pN ∧ Below w.heap.size w w' := by
  refine (canvassCompare Any Any p q xN zN 2 1 w hp hq smallX smallZ.1).mono ?_
  rintro e w' ⟨v, he, ho, hb⟩
  rw [fit_N2] at he
  rw [fit_N2, if_pos rfl, pla_N] at ho
  obtain ⟨a, c, rfl⟩ := Own.shape ho
  exact ⟨a, c, he, RSl.mono (fun _ _ _ h => h) (fun _ _ => trivial) (Own.rsl ho (by decide)), hb⟩
theorem rp_N1 (p q z : Value) (w : World) (hp : RBtcs Any w p xN) (hq : RBtcs Any w q zN) (hz : RInts Any w z [0, 0]) : Calls Try.prog 49 #[p, q, .int .i64 2, .int .u8 1, z] w fun e w' => ∃ v, e = .returned (.tuple #[v, .int .i64 2]) ∧ Below w.heap.size w w' := by
  refine (canvassReplace Any Any Any p q z xN zN 2 1 [0, 0] w hp hq hz (by decide) smallX smallZ).mono ?_
  rintro e w' ⟨v, he, -, hb⟩
  rw [rep_N1] at he
  exact ⟨v, he, hb⟩
theorem rp_N2 (p q z : Value) (w : World) (hp : RBtcs Any w p xN) (hq : RBtcs Any w q zN) (hz : RInts Any w z [1]) : Calls Try.prog 49 #[p, q, .int .i64 2, .int .u8 1, z] w fun e w' => ∃ v, e = .returned (.tuple #[v, .int .i64 2]) ∧ Below w.heap.size w w' := by
  refine (canvassReplace Any Any Any p q z xN zN 2 1 [1] w hp hq hz (by decide) smallX smallZ).mono ?_
  rintro e w' ⟨v, he, -, hb⟩
  rw [rep_N2] at he
  exact ⟨v, he, hb⟩
theorem rp_N3 (p q z : Value) (w : World) (hp : RBtcs Any w p xN) (hq : RBtcs Any w q zN) (hz : RInts Any w z [0]) : Calls Try.prog 49 #[p, q, .int .i64 2, .int .u8 1, z] w fun e w' => ∃ a c, e = .returned (.tuple #[.slice a 1 c, .int .i64 0]) ∧ RBtcs Any w' (.slice a 1 c) zN ∧ Below w.heap.size w w' := by
  refine (canvassReplace Any Any Any p q z xN zN 2 1 [0] w hp hq hz (by decide) smallX smallZ).mono ?_
  rintro e w' ⟨v, he, ho, hb⟩
  rw [rep_N3] at he
  rw [rep_N4] at ho
  have hr := ho.toR
  obtain ⟨a, c, rfl, -, -⟩ := RSl.shape hr
  exact ⟨a, c, he, RSl.mono (fun _ _ _ h => dBtc.mono (fun _ _ => trivial) h) (fun _ _ => trivial) hr, hb⟩
theorem rc_N1 (q : Value) (w : World) (hq : RBtcs Any w q xN) : Calls Try.prog 28 #[.slice none 0 0, q, .int .i64 2, .int .u8 1, .int .i64 (-1)] w fun e w' => ∃ v, e = .returned (.tuple #[v, .int .i64 2]) ∧ Below w.heap.size w w' := by
  refine (canvassReconcile Any _ q [] xN 2 1 (-1) w RSl.nil hq (by decide) smallX (by decide)).mono ?_
  rintro e w' ⟨v, he, -, hb⟩
  rw [rec_N1] at he
  exact ⟨v, he, hb⟩
theorem rc_N2 (p q : Value) (w : World) (hp : RSl Any 2 dSlot w p (sN 2)) (hq : RBtcs Any w q xN) : Calls Try.prog 28 #[p, q, .int .i64 2, .int .u8 1, .int .i64 1] w fun e w' => ∃ a c, e = .returned (.tuple #[.slice a 1 c, .int .i64 0]) ∧ RSl Any 4 dFnd w' (.slice a 1 c) fN ∧ Below w.heap.size w w' := by
  refine (canvassReconcile Any p q (sN 2) xN 2 1 1 w hp hq (by decide) smallX (by decide)).mono ?_
  rintro e w' ⟨v, he, ho, hb⟩
  rw [rec_N2] at he
  rw [rec_N3] at ho
  obtain ⟨a, c, rfl⟩ := Own.shape ho
  exact ⟨a, c, he, RSl.mono (fun _ _ _ h => h) (fun _ _ => trivial) (Own.rsl ho (by decide)), hb⟩
theorem ck_N1 (p : Value) (w : World) (hp : RSl Any 2 dSlot w p (sN 65)) : Calls Try.prog 30 #[p] w fun e w' => e = .returned (.int .i64 8) ∧ Below w.heap.size w w' := by
  have := canvassCheck Any p _ w hp
  rwa [chk_N1] at this
theorem ck_N2 (p : Value) (w : World) (hp : RSl Any 2 dSlot w p s2N) : Calls Try.prog 30 #[p] w fun e w' => e = .returned (.int .i64 8) ∧ Below w.heap.size w w' := by
  have := canvassCheck Any p _ w hp
  rwa [chk_N2] at this
theorem ck_N3 (p : Value) (w : World) (hp : RSl Any 2 dSlot w p s17N) : Calls Try.prog 30 #[p] w fun e w' => e = .returned (.int .i64 4) ∧ Below w.heap.size w w' := by
  have := canvassCheck Any p _ w hp
  rwa [chk_N3] at this
theorem du_N1 (u v : Value) (w : World) (hu : RU Any w u [1]) (hv : RU Any w v [2]) : Calls Try.prog 53 #[.int .i64 0, .int .i64 1, .agg #[.bool true, u, v]] w fun e w' => e = .returned (.tuple #[.bool false, .int .i64 8]) ∧ Below w.heap.size w w' := by
  have := canvassDue Any Any 0 1 true u v [1] [2] w hu hv
  rwa [due_N1] at this
theorem du_N2 (w : World) : Calls Try.prog 53 #[.int .i64 0, .int .i64 1, .agg #[.bool false, .slice none 0 0, .slice none 0 0]] w fun e w' => e = .returned (.tuple #[.bool false, .int .i64 8]) ∧ Below w.heap.size w w' := by
  have := canvassDue Any Any 0 1 false _ _ [] [] w RSl.nil RSl.nil
  rwa [due_N2] at this
theorem du_N3 (u v : Value) (w : World) (hu : RU Any w u []) (hv : RU Any w v [1]) : Calls Try.prog 53 #[.int .i64 (-1), .int .i64 1, .agg #[.bool false, u, v]] w fun e w' => e = .returned (.tuple #[.bool false, .int .i64 2]) ∧ Below w.heap.size w w' := by
  have := canvassDue Any Any (-1) 1 false u v [] [1] w hu hv
  rwa [due_N3] at this
theorem du_N4 (u v : Value) (w : World) (hu : RU Any w u []) (hv : RU Any w v [1]) : Calls Try.prog 53 #[.int .i64 1, .int .i64 1000001, .agg #[.bool false, u, v]] w fun e w' => e = .returned (.tuple #[.bool false, .int .i64 2]) ∧ Below w.heap.size w w' := by
  have := canvassDue Any Any 1 1000001 false u v [] [1] w hu hv
  rwa [due_N4] at this
theorem du_N5 (u v : Value) (w : World) (hu : RU Any w u []) (hv : RU Any w v [1]) : Calls Try.prog 53 #[.int .i64 0, .int .i64 0, .agg #[.bool false, u, v]] w fun e w' => e = .returned (.tuple #[.bool true, .int .i64 0]) ∧ Below w.heap.size w w' := by
  have := canvassDue Any Any 0 0 false u v [] [1] w hu hv
  rwa [due_N5] at this
theorem du_N6 (u v : Value) (w : World) (hu : RU Any w u []) (hv : RU Any w v [1]) : Calls Try.prog 53 #[.int .i64 0, .int .i64 1, .agg #[.bool false, u, v]] w fun e w' => e = .returned (.tuple #[.bool true, .int .i64 0]) ∧ Below w.heap.size w w' := by
  have := canvassDue Any Any 0 1 false u v [] [1] w hu hv
  rwa [due_N6] at this
theorem same_N (p q : Value) (w : World) (hp : RBtcs Any w p zN) (hq : RBtcs Any w q zN) : Calls Try.prog 24 #[p, q] w fun e w' => e = .returned (.bool true) ∧ Below w.heap.size w w' := by
  have := same26 Any Any p q zN zN w hp hq
  rwa [eqL_refl eqBtc_refl] at this
def z17 : Array Value := ((List.replicate 17 [Value.string ⟨#[]⟩, .int .i64 0]).flatten).toArray
theorem mk17 (w : World) : (Instr.makeSlice 39 (.int .i64 17) (.int .i64 17)).run Try.prog w = .ok (.slice (some ⟨w.heap.size, 0, none⟩) 17 17) (w.alloc (.cells z17 95)) := by kernel_rfl
theorem s17_at (W : World) : RSl Any 2 dSlot (W.alloc (.cells z17 95)) (.slice (some ⟨W.heap.size, 0, none⟩) 17 17) s17N := by
  have hd : ∀ n, Dec 2 dSlot (W.alloc (.cells z17 95)) ((List.replicate n [Value.string ⟨#[]⟩, .int .i64 0]).flatten) (List.replicate n (⟨⟨#[]⟩, 0⟩ : Slot)) := by
    intro n
    induction n with
    | zero => exact Dec.nil _ _ _
    | succ n ih => exact Dec.append (Dec.single rfl ⟨rfl, by decide, by decide⟩) ih
  exact RSl.lay trivial (box_new W _) (hd 17) (by decide)
theorem i00_at (W : World) : RInts Any (W.alloc (.cells #[.int .i64 0, .int .i64 0] 3)) (.slice (some ⟨W.heap.size, 0, none⟩) 2 2) [0, 0] :=
  RSl.lay (cells := [.int .i64 0] ++ [.int .i64 0]) (xs := ([0] : List Int) ++ ([0] : List Int)) trivial (box_new W _) (Dec.append (Dec.single rfl ⟨rfl, by decide⟩) (Dec.single rfl ⟨rfl, by decide⟩)) (by decide)
theorem i1_at (n : Int) (hn : (Lit.int .i64 n).wf = true) (W : World) : RInts Any (W.alloc (.cells #[.int .i64 n] 3)) (.slice (some ⟨W.heap.size, 0, none⟩) 1 1) [n] :=
  RSl.lay (cells := [.int .i64 n]) (xs := ([n] : List Int)) trivial (box_new W _) (Dec.single rfl ⟨rfl, hn⟩) (by simp)
theorem slot_at (n : Int) (hn : (Lit.int .i64 n).wf = true) (W : World) : RSl Any 2 dSlot (W.alloc (.cells #[.string ⟨#[120]⟩, .int .i64 n] 95)) (.slice (some ⟨W.heap.size, 0, none⟩) 1 1) (sN n) :=
  RSl.lay (cells := [.string ⟨#[120]⟩, .int .i64 n]) (xs := sN n) trivial (box_new W _) (Dec.single rfl ⟨rfl, by show (ByteArray.mk #[120]).size ≤ 140737488355328; decide, hn⟩) (by simp [sN])
theorem s2_at (W : World) : RSl Any 2 dSlot (W.alloc (.cells #[.string ⟨#[120]⟩, .int .i64 0, .string ⟨#[120]⟩, .int .i64 0] 95)) (.slice (some ⟨W.heap.size, 0, none⟩) 2 2) s2N :=
  RSl.lay (cells := [.string ⟨#[120]⟩, .int .i64 0] ++ [.string ⟨#[120]⟩, .int .i64 0]) (xs := ([⟨⟨#[120]⟩, 0⟩] : List Slot) ++ ([⟨⟨#[120]⟩, 0⟩] : List Slot)) trivial (box_new W _) (Dec.append (Dec.single rfl ⟨rfl, by decide, by decide⟩) (Dec.single rfl ⟨rfl, by decide, by decide⟩)) (by decide)
theorem pl_at (W : World) : RSl Any 2 dPlace (W.alloc (.cells #[.int .i64 0, .int .i64 0] 111)) (.slice (some ⟨W.heap.size, 0, none⟩) 1 1) pN :=
  RSl.lay (cells := [.int .i64 0, .int .i64 0]) (xs := pN) trivial (box_new W _) (Dec.single rfl ⟨rfl, by decide, by decide⟩) (by decide)
theorem fn_at (W : World) : RSl Any 4 dFnd (W.alloc (.cells #[.int .u8 2, .string ⟨#[120]⟩, .int .i64 2, .int .i64 1] 113)) (.slice (some ⟨W.heap.size, 0, none⟩) 1 1) fN :=
  RSl.lay (cells := [.int .u8 2, .string ⟨#[120]⟩, .int .i64 2, .int .i64 1]) (xs := fN) trivial (box_new W _) (Dec.single rfl ⟨rfl, by decide, by decide, by decide, by decide⟩) (by decide)
end Go.Proofs.Ytkjgddcjhikdgaa
