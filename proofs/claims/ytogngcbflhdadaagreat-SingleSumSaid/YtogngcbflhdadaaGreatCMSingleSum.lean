/- The law SingleSum returns true whatever the input, and every argument reads behind the call as it read before. No condition. -/
import Derived.Test.YtogngcbflhdadaaGreatCGNat
import Derived.Test.YtogngcbflhdadaaGreatCGOne
import Derived.Test.YtogngcbflhdadaaGreatCGRat
import Derived.Test.YtogngcbflhdadaaGreatCGMore
import Derived.Test.YtogngcbflhdadaaGreatCGSam
import Derived.Test.YtogngcbflhdadaaGreatCGAdd
import Derived.Test.YtogngcbflhdadaaGreatRows
import Derived.Deep.CutRange
import Derived.WalkKit
import Derived.ProofKit
import Derived.OpenShut
import Derived.ShutString
import Derived.ChangeOld
import Derived.Below

/- Natural numbers: the contracts of nat.limb and nat.Add. -/
namespace Go.Proofs.YtogngcbflhdadaaGreat
open Go Go.RowKit Go.Shelf Limb

set_option maxHeartbeats 1000000 in
theorem natLimb (S : Nat → Prop) (a : Option Addr) (L c : Nat) (xs : List Int) (i : Nat) (w : World) (h : RU S w (.slice a L c) xs) :
    Calls Tryz.prog 144 #[.slice a L c, .int .i64 i] w fun e w' => e = .returned (.int .u32 (xs.getD i 0)) ∧ w = w' := by
  have hL : L = xs.length := RSl.len h
  by_cases hlt : i < L
  · obtain ⟨b, off, rfl, -, -, hc, -, -⟩ := RU.at h (by omega : i < xs.length)
    have hg : xs.getD i 0 = xs[i]'(by omega) := by rw [List.getD_eq_getElem?_getD, List.getElem?_eq_getElem (by omega)]; rfl
    rw [hg]
    obtain ⟨x, hx⟩ : ∃ x, xs[i]'(by omega) = x := ⟨_, rfl⟩
    rw [hx] at hc ⊢
    have hI : (i : Int) < L := by omega
    clear h hL hg hx
    go_enter Tryz.func144, Tryz.ntmps144
    go_wp2
    go_ret
    exact ⟨rfl, rfl⟩
  · have hg : xs.getD i 0 = 0 := by rw [List.getD_eq_getElem?_getD, List.getElem?_eq_none (by omega)]; rfl
    rw [hg]
    have hI : (i : Int) ≥ L := by omega
    clear h hL hg
    go_enter Tryz.func144, Tryz.ntmps144
    go_wp2
    go_ret
    exact ⟨rfl, rfl⟩
theorem set_zeros {ds : List Int} {i M : Nat} (hd : ds.length = i) (hi : i < M) (x : Int) : (ds ++ List.replicate (M - i) 0).set i x = (ds ++ [x]) ++ List.replicate (M - (i + 1)) 0 := by
  rw [List.set_append_right _ _ (by omega), hd, Nat.sub_self, show M - i = M - (i + 1) + 1 by omega, List.replicate_succ, List.set_cons_zero, List.append_assoc]
  rfl
set_option maxHeartbeats 2000000 in
set_option maxRecDepth 100000 in
theorem natAdd (va vb : Value) (m n : Nat) (w : World) (ha : NumAt w va m) (hb : NumAt w vb n) (hla : (lim m).length ≤ 96) (hlb : (lim n).length ≤ 96) :
    Calls Tryz.prog 110 #[va, vb] w (FitGives (m + n) w) := by
  have hB := natBoth Any Any va vb _ _ w ha.ru hb.ru
  rw [chkNN, chk_of_lim hla, chk_of_lim hlb] at hB
  simp only [ne_eq, not_true_eq_false, if_false] at hB
  have hra : RU (Cut Any w.heap.size) w va (lim m) := RSl.cut (by omega) (fun _ _ h => h) ha.ru
  have hrb : RU (Cut Any w.heap.size) w vb (lim n) := RSl.cut (by omega) (fun _ _ h => h) hb.ru
  obtain ⟨a1, c1, rfl⟩ := ha.shape
  obtain ⟨a2, c2, rfl⟩ := hb.shape
  obtain ⟨xs, hxs⟩ : ∃ xs, lim m = xs := ⟨_, rfl⟩
  obtain ⟨ys, hys⟩ : ∃ ys, lim n = ys := ⟨_, rfl⟩
  have hvx : val xs = (m : Int) := by rw [← hxs, val_lim]
  have hvy : val ys = (n : Int) := by rw [← hys, val_lim]
  have hlx : Lim xs := by rw [← hxs]; exact lim_Lim m
  have hly : Lim ys := by rw [← hys]; exact lim_Lim n
  rw [hxs] at hra hB hla ⊢
  rw [hys] at hrb hB hlb ⊢
  obtain ⟨La, hLa⟩ : ∃ La, xs.length = La := ⟨_, rfl⟩
  obtain ⟨Lb, hLb⟩ : ∃ Lb, ys.length = Lb := ⟨_, rfl⟩
  rw [hLa] at hra hB hla ⊢
  rw [hLb] at hrb hB hlb ⊢
  obtain ⟨M0, hM0⟩ : ∃ M0, max La Lb = M0 := ⟨_, rfl⟩
  obtain ⟨M, hM⟩ : ∃ M, M0 + 1 = M := ⟨_, rfl⟩
  have q1 : max (La : Int) (Lb : Int) = (M0 : Int) := by omega
  have q2 : (M0 : Int) + 1 = (M : Int) := by omega
  have q4 := i64_small (x := (M : Int)) (by omega) (by omega)
  have hMb : M ≤ 200 := by omega
  have hmk := run_make_row' (P := Tryz.prog) 52 128 (.int .u32 0) 4 Tryz.underlying52 Tryz.infoU32 rfl .i64 .i64 M (by omega) (by omega)
  have hA0 := Arr.madeN (k := .u32) w M 128
  have hb0 := below_new w (.cells (madeCells #[.int .u32 0] M) 128)
  have HB := Lib.hid hB; have Hx := Lib.hid (And.intro hvx (And.intro hlx hLa)); have Hy := Lib.hid (And.intro hvy (And.intro hly hLb)); have HMM := Lib.hid (And.intro hM0 hM)
  clear hB hvx hvy hlx hly hLa hLb hxs hys hM0 hM ha hb
  go_enter Tryz.func110, Tryz.ntmps110
  go_wp2_with (go_at_call 108; refine HB.out.mono ?_; rintro e w1 ⟨rfl, rfl⟩)
  go_loopw [8, 9, 25] (fun cv _ iv wr => ∃ (i : Nat) (c : Int) (ds : List Int), iv = .int .i64 i ∧ cv = .int .u32 c ∧ i ≤ M ∧ 0 ≤ c ∧ c ≤ 1 ∧ Hid (ds.length = i ∧ Lim ds ∧ val (xs.take i) + val (ys.take i) = val ds + c * pw i) ∧ Hid (Arr .u32 wr w.heap.size 128 (ds ++ List.replicate (M - i) 0)) ∧ Below w.heap.size w wr) (fun _ _ iv _ => M - (intOf iv).toNat)
  case atStart => exact ⟨0, 0, [], rfl, rfl, Nat.zero_le _, by omega, by omega, Lib.hid ⟨rfl, Lim.nil, by simp [val]⟩, Lib.hid (by simpa using hA0), hb0⟩
  case round =>
    obtain ⟨i, c, ds, rfl, rfl, hi, hc0, hc1, hd, hAr, hb⟩ := hrel
    have hrbr : RU (Cut Any w.heap.size) wr (.slice a2 Lb c2) ys := hrb.same (fun b _ hS => hb.block b hS.2)
    have hrar : RU (Cut Any w.heap.size) wr (.slice a1 La c1) xs := hra.same (fun b _ hS => hb.block b hS.2)
    by_cases hlt : i < M
    · obtain ⟨hd1, hd2, hd3⟩ := hd.out
      have hxD := Hx.out.2.1.getD i
      have hyD := Hy.out.2.1.getD i
      have e1 := val_take_getD xs i
      have e2 := val_take_getD ys i
      have hL1 := natLimb _ a1 La c1 xs i wr hrar
      have hL2 := natLimb _ a2 Lb c2 ys i wr hrbr
      obtain ⟨x, hx⟩ : ∃ x, xs.getD i 0 = x := ⟨_, rfl⟩
      obtain ⟨y, hy⟩ : ∃ y, ys.getD i 0 = y := ⟨_, rfl⟩
      rw [hx] at hxD e1 hL1
      rw [hy] at hyD e2 hL2
      have hBA := fun W => bitsAdd x y c W hxD hyD ⟨hc0, hc1⟩
      obtain ⟨s1, s2, s3, s4, s5⟩ := add_spec x y c hxD.1 hxD.2 hyD.1 hyD.2 hc0 hc1
      obtain ⟨D, hD⟩ : ∃ D, (x + y + c) % 4294967296 = D := ⟨_, rfl⟩
      obtain ⟨c', hc'⟩ : ∃ c', (x + y + c) / 4294967296 = c' := ⟨_, rfl⟩
      rw [hD, hc'] at hBA s1
      rw [hc'] at s2 s3
      rw [hD] at s4 s5
      have hfin : (ds ++ [D]).length = i + 1 ∧ Lim (ds ++ [D]) ∧ val (xs.take (i + 1)) + val (ys.take (i + 1)) = val (ds ++ [D]) + c' * pw (i + 1) := by
        refine ⟨by rw [List.length_append, hd1]; rfl, Lim.append.2 ⟨hd2, Lim.cons.2 ⟨⟨s4, s5⟩, Lim.nil⟩⟩, ?_⟩
        rw [e1, e2, val_snoc, hd1, pw_succ]
        have e3 : val (ys.take i) = val ds + c * pw i - val (xs.take i) := by omega
        rw [e3]
        have e4 : x = D + 4294967296 * c' - y - c := by omega
        rw [e4]
        grind
      have hl0 : (ds ++ List.replicate (M - i) 0).length = M := by rw [List.length_append, List.length_replicate, hd1]; omega
      have hcu : wr.cell? ⟨w.heap.size, i, none⟩ = some (.int .u32 0) := hAr.out.get (by
        rw [List.getElem?_append_right (by omega), hd1, Nat.sub_self, List.getElem?_replicate, if_pos (by omega)])
      have hfu : wr.frozen? ⟨w.heap.size, i, none⟩ = false := hAr.out.frozen _
      have hset : ∀ W, W = wr → Arr .u32 (W.setCell ⟨w.heap.size, i, none⟩ (.int .u32 D)) w.heap.size 128 ((ds ++ [D]) ++ List.replicate (M - (i + 1)) 0) := fun W e => by
        subst e
        rw [← set_zeros hd1 hlt D]
        exact hAr.out.set _ _
      have hiM : (i : Int) < (M : Int) := by omega
      have hgl : w.heap.size < wr.heap.size := hAr.out.lt
      have Hfin := Lib.hid hfin; have HBA := Lib.hid hBA; have Hset := Lib.hid hset; have HL1 := Lib.hid hL1; have HL2 := Lib.hid hL2
      clear hfin hBA hset hL1 hL2 hD hc' s1 hd1 hd2 hd3 e1 e2 hx hy hxD hyD hl0
      have st0 := Lib.hid True.intro
      go_wp2_with (first
        | (go_at_call 143; refine (HBA.out _).mono ?_; rintro e w1 ⟨rfl, rfl⟩)
        | (have := st1; go_at_call 144; clear st1; refine HL2.out.mono ?_; rintro e w1 ⟨rfl, rfl⟩; clear this)
        | (have := st0; go_at_call 144; clear st0; refine HL1.out.mono ?_; rintro e w1 ⟨rfl, rfl⟩; clear this; have st1 := Lib.hid True.intro))
      exact ⟨⟨i + 1, c', _, by go_num, rfl, by omega, s2, s3, Hfin, Lib.hid (Hset.out _ rfl), hb.setCell (by simp) _⟩, by simp [intOf]; omega⟩
    · obtain rfl : M = i := by omega
      obtain ⟨hd1, hd2, hd3⟩ := hd.out
      have hM := HMM.out
      have hv : val ds = ((m + n : Nat) : Int) := by
        have hxl := Hx.out.2.2
        have hyl := Hy.out.2.2
        rw [List.take_of_length_le (by omega), List.take_of_length_le (by omega)] at hd3
        have h1 := val_lt Hx.out.2.1
        have h2 := val_lt Hy.out.2.1
        have h3 := pw_mono (show xs.length ≤ M0 by omega)
        have h4 := pw_mono (show ys.length ≤ M0 by omega)
        have h5 := pw_pos M0
        have h6 : pw M = 4294967296 * pw M0 := by rw [← hM.2, pw_succ]
        have h7 := val_nonneg hd2
        have hc : c = 0 := by
          rcases (show c = 0 ∨ c = 1 by omega) with h | h
          · exact h
          · rw [h, Int.one_mul] at hd3; omega
        rw [hc, Int.zero_mul, Hx.out.1, Hy.out.1] at hd3
        omega
      have hA2 : Arr .u32 wr w.heap.size 128 ds := by have := hAr.out; rwa [Nat.sub_self, List.replicate_zero, List.append_nil] at this
      have hF := natFits Any (.slice (some ⟨w.heap.size, 0, none⟩) M M) ds (m + n) wr (hA2.all (S := Any) trivial (Lim.wf hd2) (by omega) hd1.symm (Nat.le_refl _)) hv
      have HF := Lib.hid hF
      clear hF hd1 hd2 hd3 hv hM hA2
      by_cases hl : (lim (m + n)).length ≤ 96
      · go_wp2_with (go_at_call 142; refine HF.out.mono ?_; rintro e w3 ⟨hf1, hf2, hf3⟩; obtain ⟨a3, c3, rfl, hN⟩ := hf1 hl; have HN := Lib.hid hN; clear hN hf1 hf2)
        go_ret2
        exact ⟨fun _ => ⟨a3, c3, rfl, HN.out⟩, fun h => by omega, hb.trans (hf3.mono hb.size)⟩
      · go_wp2_with (go_at_call 142; refine HF.out.mono ?_; rintro e w3 ⟨hf1, hf2, hf3⟩; have he := hf2 (by omega); subst he; clear hf1 hf2)
        go_ret2
        exact ⟨fun h => by omega, fun _ => rfl, hb.trans (hf3.mono hb.size)⟩
end Go.Proofs.YtogngcbflhdadaaGreat

/- Ratios: sum, does and Add of the program, at valid ratios that are not negative and whose products are small. -/
namespace Go.Proofs.YtogngcbflhdadaaGreat
open Go Go.RowKit Go.Shelf Limb

/-- A ratio that is not negative, of numerator P and denominator Q. -/
def GivesPQ (P Q : Nat) (w : World) (e : Ending) (w' : World) : Prop :=
  ∃ a c a' c', e = .returned (.tuple #[.agg #[.bool false, .slice a (lim P).length c, .slice a' (lim Q).length c'], .int .i64 0]) ∧ RU Any w' (.slice a (lim P).length c) (lim P) ∧ RU Any w' (.slice a' (lim Q).length c') (lim Q) ∧ Below w.heap.size w w'
set_option maxHeartbeats 2000000 in
set_option maxRecDepth 100000 in
theorem ratSum (v1 v2 v3 v4 : Value) (m1 n1 m2 n2 : Nat) (w : World) (h1 : NumAt w v1 m1) (h2 : NumAt w v2 n1) (h3 : NumAt w v3 m2) (h4 : NumAt w v4 n2) (l1 : (lim m1).length ≤ 96) (l2 : (lim n1).length ≤ 96) (l3 : (lim m2).length ≤ 96) (l4 : (lim n2).length ≤ 96) (z1 : 0 < n1) (z2 : 0 < n2)
    (f1 : (lim (m1 * n2)).length ≤ 96) (f2 : (lim (m2 * n1)).length ≤ 96) (f3 : (lim (n1 * n2)).length ≤ 96) (f4 : (lim (m1 * n2 + m2 * n1)).length ≤ 96) :
    Calls Tryz.prog 77 #[.agg #[.bool false, v1, v2, .bool false, v3, v4]] w (GivesPQ ((m1 * n2 + m2 * n1) / Nat.gcd (m1 * n2 + m2 * n1) (n1 * n2)) ((n1 * n2) / Nat.gcd (m1 * n2 + m2 * n1) (n1 * n2)) w) := by
  obtain ⟨a1, c1, rfl⟩ := h1.shape
  obtain ⟨a2, c2, rfl⟩ := h2.shape
  obtain ⟨a3, c3, rfl⟩ := h3.shape
  obtain ⟨a4, c4, rfl⟩ := h4.shape
  obtain ⟨W0, hW0⟩ : ∃ W0, W0 = (w.alloc (.cells #[.bool false, .slice a1 (lim m1).length c1, .slice a2 (lim n1).length c2, .bool false, .slice a3 (lim m2).length c3, .slice a4 (lim n2).length c4] 104)).alloc (.cells #[.bool false, .slice none 0 0, .slice none 0 0] 54) := ⟨_, rfl⟩
  have hb0 : Below w.heap.size w W0 := by rw [hW0]; exact (below_new w _).alloc (by simp) _
  have hz0 : W0.heap.size = w.heap.size + 2 := by rw [hW0]; simp
  have hgA : W0.heap[w.heap.size]? = some (.cells #[.bool false, .slice a1 (lim m1).length c1, .slice a2 (lim n1).length c2, .bool false, .slice a3 (lim m2).length c3, .slice a4 (lim n2).length c4] 104 (0, 0)) := by rw [hW0]; exact box_old _ (box_new w _)
  have hgB : W0.heap[w.heap.size + 1]? = some (.cells #[.bool false, .slice none 0 0, .slice none 0 0] 54 (0, 0)) := by rw [hW0]; simpa using box_new (w.alloc (.cells #[.bool false, .slice a1 (lim m1).length c1, .slice a2 (lim n1).length c2, .bool false, .slice a3 (lim m2).length c3, .slice a4 (lim n2).length c4] 104)) (.cells #[.bool false, .slice none 0 0, .slice none 0 0] 54)
  obtain ⟨p, hp⟩ : ∃ p, m1 * n2 = p := ⟨_, rfl⟩
  obtain ⟨q, hq⟩ : ∃ q, m2 * n1 = q := ⟨_, rfl⟩
  obtain ⟨d, hd⟩ : ∃ d, n1 * n2 = d := ⟨_, rfl⟩
  have hX := (ratCrossed false false _ _ _ _ m1 n1 m2 n2 W0 (h1.same hb0) (h2.same hb0) (h3.same hb0) (h4.same hb0) l1 l2 l3 l4).mono fun e w' hh => (show ∃ a c a' c', e = Ending.returned (.tuple #[.slice a (lim p).length c, .slice a' (lim q).length c', .int .i64 0]) ∧ NumAt w' (.slice a (lim p).length c) p ∧ NumAt w' (.slice a' (lim q).length c') q ∧ Below W0.heap.size W0 w' from by
    rw [hp] at hh f1; rw [hq] at hh f2
    obtain ⟨u, v, hc, hb⟩ := hh
    rcases hc with ⟨-, -, k1, k2, rfl⟩ | ⟨k, -⟩
    · obtain ⟨x1, y1, rfl⟩ := k1.shape
      obtain ⟨x2, y2, rfl⟩ := k2.shape
      exact ⟨_, _, _, _, rfl, k1, k2, hb⟩
    · exact absurd ⟨f1, f2⟩ k)
  have hFit : ∀ (N : Nat) (W W' : World) (e : Ending), (lim N).length ≤ 96 → FitGives N W e W' → ∃ a c, e = .returned (.tuple #[.slice a (lim N).length c, .int .i64 0]) ∧ NumAt W' (.slice a (lim N).length c) N ∧ Below W.heap.size W W' := fun N W W' e hl hh => by
    obtain ⟨k1, -, k3⟩ := hh
    obtain ⟨a, c, k4, k5⟩ := k1 hl
    exact ⟨a, c, k4, k5, k3⟩
  have hMu := fun (W : World) (hW : Below W0.heap.size W0 W) => (natMul _ _ n1 n2 W ((h2.same hb0).same hW) ((h4.same hb0).same hW) l2 l4).mono fun e w' hh => hFit _ _ _ _ f3 hh
  rw [hd] at hMu f3
  rw [hp, hq, hd] at ⊢
  rw [hp] at f1 f4
  rw [hq] at f2 f4
  have hd0 : 0 < d := by rw [← hd]; exact Nat.mul_pos z1 z2
  have hCm := fun (W : World) u v (k1 : NumAt W u p) (k2 : NumAt W v q) => natCmp u v p q W k1 k2 f1 f2
  have hAd := fun (W : World) u v (k1 : NumAt W u p) (k2 : NumAt W v q) => (natAdd u v p q W k1 k2 f1 f2).mono fun e w' hh => hFit _ _ _ _ f4 hh
  have hLo := fun (W : World) u v (k1 : NumAt W u (p + q)) (k2 : NumAt W v d) => ratLowest false u v (p + q) d W k1 k2 f4 f3 hd0
  simp only [Bool.false_and] at hLo
  obtain ⟨P, hP⟩ : ∃ P, (p + q) / Nat.gcd (p + q) d = P := ⟨_, rfl⟩
  obtain ⟨Q, hQ⟩ : ∃ Q, d / Nat.gcd (p + q) d = Q := ⟨_, rfl⟩
  obtain ⟨sm, hsm⟩ : ∃ s, p + q = s := ⟨_, rfl⟩
  rw [hP, hQ] at hLo ⊢
  rw [hsm] at hAd hLo
  obtain ⟨cm, hcm⟩ : ∃ c, cmpN p q = c := ⟨_, rfl⟩
  rw [hcm] at hCm
  have hcell : ∀ W, Below W0.heap.size W0 W → (∀ i, W.cell? ⟨w.heap.size, i, none⟩ = (#[.bool false, .slice a1 (lim m1).length c1, .slice a2 (lim n1).length c2, .bool false, .slice a3 (lim m2).length c3, .slice a4 (lim n2).length c4] : Array Value)[i]?) ∧ (∀ i, W.cell? ⟨w.heap.size + 1, i, none⟩ = (#[.bool false, .slice none 0 0, .slice none 0 0] : Array Value)[i]?) ∧ (∀ i, W.frozen? ⟨w.heap.size + 1, i, none⟩ = false) ∧ w.heap.size + 1 < W.heap.size := fun W hW => ⟨(own_box hW (by omega) hgA).2.1, (own_box hW (by omega) hgB).2.1, (own_box hW (by omega) hgB).2.2, by have := hW.size; omega⟩
  generalize (lim m1).length = L1 at *
  generalize (lim n1).length = L2 at *
  generalize (lim m2).length = L3 at *
  generalize (lim n2).length = L4 at *
  have hfin : ∀ (w3 : World) v n, Below W0.heap.size W0 w3 → NumAt w3 v n → ∀ w', Same (fun b => b ≠ w.heap.size + 1) w3 w' → NumAt w' v n := fun w3 v n hW k w' hs => by
    obtain ⟨g1, -, -⟩ := own_box hW (by omega) hgB
    exact k.kept g1 (bss_ne _ _ _ (by simp) (by simp)) hs
  have HX := Lib.hid hX; have HMu := Lib.hid hMu; have HCm := Lib.hid hCm; have HAd := Lib.hid hAd; have HLo := Lib.hid hLo; have HC := Lib.hid hcell; have HFn := Lib.hid hfin; have Hb0 := Lib.hid hb0; have Hz0 := Lib.hid hz0
  clear hX hMu hCm hAd hLo hcell hfin hb0 hz0 hFit hgA hgB h1 h2 h3 h4 l1 l2 l3 l4 f1 f2 f3 f4 hp hq hd hP hQ hsm hcm z1 z2 hd0
  have st0 := Lib.hid True.intro
  subst hW0
  go_enter Tryz.func77, Tryz.ntmps77
  go_wp2_with (first
    | (have := st4; go_at_call 112; clear st4; refine (HLo.out _ _ _ HN4.out HD4.out).mono ?_; rintro e w5 ⟨a10, c10, a11, c11, rfl, k1, k2, hb⟩; have B5 := Lib.hid (bt B4.out hb); obtain ⟨-, y1, z1, y3⟩ := HC.out w5 B5.out; have y10 := y1 0; have y11 := y1 1; have y12 := y1 2; have HP5 := Lib.hid k1; have HQ5 := Lib.hid k2; clear k1 k2 hb this)
    | (have := st3; go_at_call 110; clear st3; refine (HAd.out _ _ _ (HP3.out.same (below_new w3 _)) (HQ3.out.same (below_new w3 _))).mono ?_; rintro e w4 ⟨a8, c8, rfl, k1, hb⟩; have B4 := Lib.hid (bt B3.out (bt (below_new w3 _) hb)); have HD4 := Lib.hid ((HD3.out.same (below_new w3 _)).same hb); have HN4 := Lib.hid k1; clear k1 hb this; have st4 := Lib.hid True.intro)
    | (have := st2; go_at_call 73; clear st2; refine (HCm.out _ _ _ HP2.out HQ2.out).mono ?_; rintro e w3 ⟨rfl, hb⟩; have B3 := Lib.hid (bt B2.out hb); obtain ⟨x3, -, -, hz3⟩ := HC.out w3 B3.out; have hz30 : w.heap.size < w3.heap.size := (by omega); have x30 := x3 0; have x33 := x3 3; have HD3 := Lib.hid (HD2.out.same hb); have HP3 := Lib.hid (HP2.out.same hb); have HQ3 := Lib.hid (HQ2.out.same hb); clear hb this x3; have st3 := Lib.hid True.intro)
    | (have := st1; go_at_call 107; clear st1; refine (HMu.out w1 B1.out).mono ?_; rintro e w2 ⟨a7, c7, rfl, k1, hb⟩; have B2 := Lib.hid (bt B1.out hb); have HD2 := Lib.hid k1; have HP2 := Lib.hid (HP1.out.same hb); have HQ2 := Lib.hid (HQ1.out.same hb); clear k1 hb this; have st2 := Lib.hid True.intro)
    | (have := st0; go_at_call 72; clear st0; refine HX.out.mono ?_; rintro e w1 ⟨a5, c5, a6, c6, rfl, k1, k2, hb⟩; have B1 := Lib.hid hb; obtain ⟨x1, -, -, -⟩ := HC.out w1 B1.out; have x12 := x1 2; have x15 := x1 5; have HP1 := Lib.hid k1; have HQ1 := Lib.hid k2; clear k1 k2 hb this x1; have st1 := Lib.hid True.intro))
  refine bodyPost_ret (v := .tuple #[.agg #[.bool false, .slice a10 (lim P).length c10, .slice a11 (lim Q).length c11], .int .i64 0]) (by simp [results, Tryz.results77, go_sem, y1]) rfl ⟨a10, c10, a11, c11, rfl, (HFn.out _ _ _ B5.out HP5.out _ ?_).ru, (HFn.out _ _ _ B5.out HQ5.out _ ?_).ru, ?_⟩
  · exact (((Same.refl _ _).setCell (by simp) _).setCell (by simp) _).setCell (by simp) _
  · exact (((Same.refl _ _).setCell (by simp) _).setCell (by simp) _).setCell (by simp) _
  · exact ((((Hb0.out.trans (B5.out.mono (by rw [Hz0.out]; omega))).setCell (p := ⟨w.heap.size + 1, 0, none⟩) (by simp) _).setCell (p := ⟨w.heap.size + 1, 1, none⟩) (by simp) _).setCell (p := ⟨w.heap.size + 1, 2, none⟩) (by simp) _)
/-- A small valid ratio that is not negative. -/
structure Pos (w : World) (v1 v2 : Value) (m n : Nat) : Prop where
  num : NumAt w v1 m
  den : NumAt w v2 n
  ok : ratChk false (lim m) (lim n) = 0
  l1 : (lim m).length ≤ 96
  l2 : (lim n).length ≤ 96
  pos : 0 < n
theorem Pos.same {w w' : World} {v1 v2 : Value} {m n : Nat} (h : Pos w v1 v2 m n) (hb : Below w.heap.size w w') : Pos w' v1 v2 m n := ⟨h.num.same hb, h.den.same hb, h.ok, h.l1, h.l2, h.pos⟩
/-- The sum's parts are small. -/
structure AddFit (m1 n1 m2 n2 : Nat) : Prop where
  f1 : (lim (m1 * n2)).length ≤ 96
  f2 : (lim (m2 * n1)).length ≤ 96
  f3 : (lim (n1 * n2)).length ≤ 96
  f4 : (lim (m1 * n2 + m2 * n1)).length ≤ 96
/-- Numerator and denominator of a sum. -/
def sumN (m1 n1 m2 n2 : Nat) : Nat := (m1 * n2 + m2 * n1) / Nat.gcd (m1 * n2 + m2 * n1) (n1 * n2)
def sumD (m1 n1 m2 n2 : Nat) : Nat := (n1 * n2) / Nat.gcd (m1 * n2 + m2 * n1) (n1 * n2)
set_option maxHeartbeats 2000000 in
set_option maxRecDepth 100000 in
theorem ratDoes (v1 v2 v3 v4 : Value) (m1 n1 m2 n2 : Nat) (w : World) (h1 : Pos w v1 v2 m1 n1) (h2 : Pos w v3 v4 m2 n2) (hf : AddFit m1 n1 m2 n2) :
    Calls Tryz.prog 76 #[.agg #[.bool false, v1, v2, .bool false, v3, v4], .func (.func 77) #[.agg #[.bool false, v1, v2, .bool false, v3, v4]] #[]] w (GivesPQ (sumN m1 n1 m2 n2) (sumD m1 n1 m2 n2) w) := by
  obtain ⟨a1, c1, rfl⟩ := h1.num.shape
  obtain ⟨a2, c2, rfl⟩ := h1.den.shape
  obtain ⟨a3, c3, rfl⟩ := h2.num.shape
  obtain ⟨a4, c4, rfl⟩ := h2.den.shape
  obtain ⟨W0, hW0⟩ : ∃ W0, W0 = (w.alloc (.cells #[.bool false, .slice a1 (lim m1).length c1, .slice a2 (lim n1).length c2, .bool false, .slice a3 (lim m2).length c3, .slice a4 (lim n2).length c4] 104)).alloc (.cells #[.bool false, .slice none 0 0, .slice none 0 0] 54) := ⟨_, rfl⟩
  have hb0 : Below w.heap.size w W0 := by rw [hW0]; exact (below_new w _).alloc (by simp) _
  have hz0 : W0.heap.size = w.heap.size + 2 := by rw [hW0]; simp
  have hgA : W0.heap[w.heap.size]? = some (.cells #[.bool false, .slice a1 (lim m1).length c1, .slice a2 (lim n1).length c2, .bool false, .slice a3 (lim m2).length c3, .slice a4 (lim n2).length c4] 104 (0, 0)) := by rw [hW0]; exact box_old _ (box_new w _)
  have hgB : W0.heap[w.heap.size + 1]? = some (.cells #[.bool false, .slice none 0 0, .slice none 0 0] 54 (0, 0)) := by rw [hW0]; simpa using box_new (w.alloc (.cells #[.bool false, .slice a1 (lim m1).length c1, .slice a2 (lim n1).length c2, .bool false, .slice a3 (lim m2).length c3, .slice a4 (lim n2).length c4] 104)) (.cells #[.bool false, .slice none 0 0, .slice none 0 0] 54)
  have hK1 := fun (W : World) (hW : Below W0.heap.size W0 W) => ratCheck Any Any false _ _ _ _ W (((h1.num.same hb0).same hW).ru) (((h1.den.same hb0).same hW).ru)
  have hK2 := fun (W : World) (hW : Below W0.heap.size W0 W) => ratCheck Any Any false _ _ _ _ W (((h2.num.same hb0).same hW).ru) (((h2.den.same hb0).same hW).ru)
  rw [h1.ok] at hK1
  rw [h2.ok] at hK2
  have hSm := fun (W : World) (hW : Below W0.heap.size W0 W) => ratSum _ _ _ _ m1 n1 m2 n2 W ((h1.num.same hb0).same hW) ((h1.den.same hb0).same hW) ((h2.num.same hb0).same hW) ((h2.den.same hb0).same hW) h1.l1 h1.l2 h2.l1 h2.l2 h1.pos h2.pos hf.f1 hf.f2 hf.f3 hf.f4
  have e1 : (m1 * n2 + m2 * n1) / Nat.gcd (m1 * n2 + m2 * n1) (n1 * n2) = sumN m1 n1 m2 n2 := rfl
  have e2 : (n1 * n2) / Nat.gcd (m1 * n2 + m2 * n1) (n1 * n2) = sumD m1 n1 m2 n2 := rfl
  simp only [e1, e2] at hSm
  unfold GivesPQ
  obtain ⟨P, hP⟩ : ∃ P, sumN m1 n1 m2 n2 = P := ⟨_, rfl⟩
  obtain ⟨Q, hQ⟩ : ∃ Q, sumD m1 n1 m2 n2 = Q := ⟨_, rfl⟩
  simp only [hP, hQ] at hSm ⊢
  have hcell : ∀ W, Below W0.heap.size W0 W → (∀ i, W.cell? ⟨w.heap.size, i, none⟩ = (#[.bool false, .slice a1 (lim m1).length c1, .slice a2 (lim n1).length c2, .bool false, .slice a3 (lim m2).length c3, .slice a4 (lim n2).length c4] : Array Value)[i]?) ∧ (∀ i, W.cell? ⟨w.heap.size + 1, i, none⟩ = (#[.bool false, .slice none 0 0, .slice none 0 0] : Array Value)[i]?) ∧ (∀ i, W.frozen? ⟨w.heap.size + 1, i, none⟩ = false) ∧ w.heap.size + 1 < W.heap.size := fun W hW => ⟨(own_box hW (by omega) hgA).2.1, (own_box hW (by omega) hgB).2.1, (own_box hW (by omega) hgB).2.2, by have := hW.size; omega⟩
  have hfin : ∀ (w3 : World) v xs, Below W0.heap.size W0 w3 → RU Any w3 v xs → ∀ w', Same (fun b => b ≠ w.heap.size + 1) w3 w' → RU Any w' v xs := fun w3 v xs hW k w' hs => by
    obtain ⟨g1, -, -⟩ := own_box hW (by omega) hgB
    exact RSl.mono (fun _ _ _ h => h) (fun _ _ => trivial) ((k.avoid g1 (bss_ne _ _ _ (by simp) (by simp))).same hs)
  generalize (lim m1).length = L1 at *
  generalize (lim n1).length = L2 at *
  generalize (lim m2).length = L3 at *
  generalize (lim n2).length = L4 at *
  have HK1 := Lib.hid hK1; have HK2 := Lib.hid hK2; have HSm := Lib.hid hSm; have HC := Lib.hid hcell; have HFn := Lib.hid hfin; have Hb0 := Lib.hid hb0; have Hz0 := Lib.hid hz0
  clear hK1 hK2 hSm hcell hfin hb0 hz0 hgA hgB h1 h2 hf hP hQ e1 e2
  have eg : ∀ args w, (callFunc 77 args).run Tryz.prog w = .ok (.enter 77 args) w := enters_of Tryz.func77 (by kernel_rfl) rfl
  have st0 := Lib.hid True.intro
  subst hW0
  go_enter Tryz.func76, Tryz.ntmps76
  go_wp2_with (first
    | (have := st2; go_at_fn 77; clear st2; refine (HSm.out w2 B2.out).mono ?_; rintro e w5 ⟨a10, c10, a11, c11, rfl, k1, k2, hb⟩; have B5 := Lib.hid (bt B2.out hb); obtain ⟨-, y1, z1, y3⟩ := HC.out w5 B5.out; have y10 := y1 0; have y11 := y1 1; have y12 := y1 2; have HP5 := Lib.hid k1; have HQ5 := Lib.hid k2; clear k1 k2 hb this)
    | (have := st1; go_at_call 70; clear st1; refine (HK2.out w1 B1.out).mono ?_; rintro e w2 ⟨rfl, hb⟩; have B2 := Lib.hid (bt B1.out hb); clear hb this; have st2 := Lib.hid True.intro)
    | (have := st0; go_at_call 70; clear st0; refine (HK1.out _ (Below.refl _ _)).mono ?_; rintro e w1 ⟨rfl, hb⟩; have B1 := Lib.hid hb; obtain ⟨x1, -, -, -⟩ := HC.out w1 B1.out; have x13 := x1 3; have x14 := x1 4; have x15 := x1 5; clear hb this x1; have st1 := Lib.hid True.intro))
  refine bodyPost_ret (v := .tuple #[.agg #[.bool false, .slice a10 (lim P).length c10, .slice a11 (lim Q).length c11], .int .i64 0]) (by simp [results, Tryz.results76, go_sem, y1]) rfl ⟨a10, c10, a11, c11, rfl, HFn.out _ _ _ B5.out HP5.out _ ?_, HFn.out _ _ _ B5.out HQ5.out _ ?_, ?_⟩
  · exact (((Same.refl _ _).setCell (by simp) _).setCell (by simp) _).setCell (by simp) _
  · exact (((Same.refl _ _).setCell (by simp) _).setCell (by simp) _).setCell (by simp) _
  · exact ((((Hb0.out.trans (B5.out.mono (by rw [Hz0.out]; omega))).setCell (p := ⟨w.heap.size + 1, 0, none⟩) (by simp) _).setCell (p := ⟨w.heap.size + 1, 1, none⟩) (by simp) _).setCell (p := ⟨w.heap.size + 1, 2, none⟩) (by simp) _)
set_option maxHeartbeats 2000000 in
set_option maxRecDepth 100000 in
theorem ratAdd (v1 v2 v3 v4 : Value) (m1 n1 m2 n2 : Nat) (w : World) (h1 : Pos w v1 v2 m1 n1) (h2 : Pos w v3 v4 m2 n2) (hf : AddFit m1 n1 m2 n2) :
    Calls Tryz.prog 41 #[.agg #[.bool false, v1, v2], .agg #[.bool false, v3, v4]] w (GivesPQ (sumN m1 n1 m2 n2) (sumD m1 n1 m2 n2) w) := by
  obtain ⟨a1, c1, rfl⟩ := h1.num.shape
  obtain ⟨a2, c2, rfl⟩ := h1.den.shape
  obtain ⟨a3, c3, rfl⟩ := h2.num.shape
  obtain ⟨a4, c4, rfl⟩ := h2.den.shape
  obtain ⟨W0, hW0⟩ : ∃ W0, W0 = (((w.alloc (.cells #[.bool false, .slice a1 (lim m1).length c1, .slice a2 (lim n1).length c2] 54)).alloc (.cells #[.bool false, .slice a3 (lim m2).length c3, .slice a4 (lim n2).length c4] 54)).alloc (.cells #[.bool false, .slice none 0 0, .slice none 0 0] 54)).alloc (.cells #[.bool false, .slice a1 (lim m1).length c1, .slice a2 (lim n1).length c2, .bool false, .slice a3 (lim m2).length c3, .slice a4 (lim n2).length c4] 104) := ⟨_, rfl⟩
  have hb0 : Below w.heap.size w W0 := by rw [hW0]; exact (((below_new w _).alloc (by simp) _).alloc (by simp; omega) _).alloc (by simp; omega) _
  have hz0 : W0.heap.size = w.heap.size + 4 := by rw [hW0]; simp
  have hgB : W0.heap[w.heap.size + 2]? = some (.cells #[.bool false, .slice none 0 0, .slice none 0 0] 54 (0, 0)) := by
    rw [hW0]
    refine box_old _ ?_
    simpa using box_new ((w.alloc (.cells #[.bool false, .slice a1 (lim m1).length c1, .slice a2 (lim n1).length c2] 54)).alloc (.cells #[.bool false, .slice a3 (lim m2).length c3, .slice a4 (lim n2).length c4] 54)) (.cells #[.bool false, .slice none 0 0, .slice none 0 0] 54)
  have hD := ratDoes _ _ _ _ m1 n1 m2 n2 W0 (h1.same hb0) (h2.same hb0) hf
  unfold GivesPQ at hD ⊢
  obtain ⟨P, hP⟩ : ∃ P, sumN m1 n1 m2 n2 = P := ⟨_, rfl⟩
  obtain ⟨Q, hQ⟩ : ∃ Q, sumD m1 n1 m2 n2 = Q := ⟨_, rfl⟩
  simp only [hP, hQ] at hD ⊢
  have hcell : ∀ W, Below W0.heap.size W0 W → (∀ i, W.cell? ⟨w.heap.size + 2, i, none⟩ = (#[.bool false, .slice none 0 0, .slice none 0 0] : Array Value)[i]?) ∧ (∀ i, W.frozen? ⟨w.heap.size + 2, i, none⟩ = false) ∧ w.heap.size + 2 < W.heap.size := fun W hW => ⟨(own_box hW (by omega) hgB).2.1, (own_box hW (by omega) hgB).2.2, by have := hW.size; omega⟩
  have hfin : ∀ (w3 : World) v xs, Below W0.heap.size W0 w3 → RU Any w3 v xs → ∀ w', Same (fun b => b ≠ w.heap.size + 2) w3 w' → RU Any w' v xs := fun w3 v xs hW k w' hs => by
    obtain ⟨g1, -, -⟩ := own_box hW (by omega) hgB
    exact RSl.mono (fun _ _ _ h => h) (fun _ _ => trivial) ((k.avoid g1 (bss_ne _ _ _ (by simp) (by simp))).same hs)
  generalize (lim m1).length = L1 at *
  generalize (lim n1).length = L2 at *
  generalize (lim m2).length = L3 at *
  generalize (lim n2).length = L4 at *
  have HD := Lib.hid hD; have HC := Lib.hid hcell; have HFn := Lib.hid hfin; have Hb0 := Lib.hid hb0; have Hz0 := Lib.hid hz0
  clear hD hcell hfin hb0 hz0 hgB h1 h2 hf hP hQ
  subst hW0
  go_enter Tryz.func41, Tryz.ntmps41
  go_wp2_with (go_at_call 76; refine HD.out.mono ?_; rintro e w5 ⟨a10, c10, a11, c11, rfl, k1, k2, hb⟩; have B5 := Lib.hid hb; obtain ⟨y1, z1, y3⟩ := HC.out w5 B5.out; have y10 := y1 0; have y11 := y1 1; have y12 := y1 2; have HP5 := Lib.hid k1; have HQ5 := Lib.hid k2; clear k1 k2 hb)
  refine bodyPost_ret (v := .tuple #[.agg #[.bool false, .slice a10 (lim P).length c10, .slice a11 (lim Q).length c11], .int .i64 0]) (by simp [results, Tryz.results41, go_sem, y1]) rfl ⟨a10, c10, a11, c11, rfl, HFn.out _ _ _ B5.out HP5.out _ ?_, HFn.out _ _ _ B5.out HQ5.out _ ?_, ?_⟩
  · exact (((Same.refl _ _).setCell (by simp) _).setCell (by simp) _).setCell (by simp) _
  · exact (((Same.refl _ _).setCell (by simp) _).setCell (by simp) _).setCell (by simp) _
  · exact ((((Hb0.out.trans (B5.out.mono (by rw [Hz0.out]; omega))).setCell (p := ⟨w.heap.size + 2, 0, none⟩) (by simp) _).setCell (p := ⟨w.heap.size + 2, 1, none⟩) (by simp) _).setCell (p := ⟨w.heap.size + 2, 2, none⟩) (by simp) _)
theorem pos_whole {S : Nat → Prop} {w : World} {c : Bool} {d e : Value} {x : Nat} (hx : x < 9223372036854775808) (h : VRt S w (.agg #[.bool c, d, e]) (whole (x : Int))) : c = false ∧ Pos w d e x 1 := by
  rw [whole_nat] at h
  obtain ⟨u1, u2, hh, h1, h2⟩ := h
  simp only [Value.agg.injEq, Array.mk.injEq, List.cons.injEq, and_true, Value.bool.injEq] at hh
  obtain ⟨rfl, rfl, rfl⟩ := hh
  have hl := lim_small_len hx
  have e1 := lim1
  refine ⟨rfl, NumAt.of h1, NumAt.of (by rw [e1]; exact h2), by rw [e1]; exact chk_whole hx, by omega, by rw [e1]; decide, by omega⟩
/-- The sum of two whole numbers. -/
theorem ratAddW (S T : Nat → Prop) (u v : Value) (a b : Nat) (w : World) (hu : VRt S w u (whole a)) (hv : VRt T w v (whole b)) (ha : a < 1000000000000) (hb : b < 1000000000000) :
    Calls Tryz.prog 41 #[u, v] w fun e w' => ∃ c1 d1 c2 d2, e = .returned (.tuple #[.agg #[.bool false, .slice c1 (lim (a + b)).length d1, .slice c2 1 d2], .int .i64 0]) ∧ VRt Any w' (.agg #[.bool false, .slice c1 (lim (a + b)).length d1, .slice c2 1 d2]) (whole ((a + b : Nat) : Int)) ∧ Below w.heap.size w w' := by
  have hu0 := hu
  have hv0 := hv
  obtain ⟨u1, u2, hue, -, -⟩ := hu0
  obtain ⟨v1, v2, hve, -, -⟩ := hv0
  rw [whole_nat] at hue hve
  simp only at hue hve
  subst hue hve
  have p1 := (pos_whole (by omega) hu).2
  have p2 := (pos_whole (by omega) hv).2
  have l1 := lim_small_len (n := a) (by omega)
  have l2 := lim_small_len (n := b) (by omega)
  have l3 := lim_small_len (n := a + b) (by omega)
  have e1 := lim1
  have h := ratAdd u1 u2 v1 v2 a 1 b 1 w p1 p2 ⟨by rw [Nat.mul_one]; omega, by rw [Nat.mul_one]; omega, by rw [Nat.mul_one, e1]; decide, by rw [Nat.mul_one, Nat.mul_one]; omega⟩
  have eN : sumN a 1 b 1 = a + b := by simp [sumN]
  have eD : sumD a 1 b 1 = 1 := by simp [sumD]
  rw [eN, eD] at h
  refine h.mono fun e w' hh => ?_
  obtain ⟨x1, y1, x2, y2, rfl, k1, k2, k3⟩ := hh
  rw [e1] at k2
  refine ⟨x1, y1, x2, y2, by rw [e1]; rfl, ?_, k3⟩
  rw [whole_nat]
  exact ⟨_, _, rfl, k1, k2⟩
end Go.Proofs.YtogngcbflhdadaaGreat

/- A sum of two whole numbers, kept in a box of its own; Whole's result. -/
namespace Go.Proofs.YtogngcbflhdadaaGreat
open Go Go.RowKit Go.Shelf Limb

/-- A whole number in a box that its parts do not lie in. -/
structure RtBox (w : World) (g n : Nat) (c1 : Option Addr) (d1 : Nat) (c2 : Option Addr) (d2 : Nat) : Prop where
  box : w.heap[g]? = some (.cells #[.bool false, .slice c1 (lim n).length d1, .slice c2 1 d2] 54 (0, 0))
  val : VRt (fun b => b ≠ g) w (.agg #[.bool false, .slice c1 (lim n).length d1, .slice c2 1 d2]) (whole (n : Int))
theorem RtBox.below {w w' : World} {g n d1 d2 : Nat} {c1 c2 : Option Addr} (h : RtBox w g n c1 d1 c2 d2) (hb : Below w.heap.size w w') : RtBox w' g n c1 d1 c2 d2 :=
  ⟨(hb.block _ (size_of_box h.box)).trans h.box, h.val.same (.of_below hb)⟩
theorem VRt.avoid {S : Nat → Prop} {w : World} {b : Bool} {u v : Value} {x : Rt} {g : Nat} {cs : Array Value} {e : TypeId} (h : VRt S w (.agg #[.bool b, u, v]) x) (hg : w.heap[g]? = some (.cells cs e (0, 0))) (hne : ∀ (i : Nat) (y : Int), cs[i]? ≠ some (Value.int .u32 y)) : VRt (fun b => b ≠ g) w (.agg #[.bool b, u, v]) x := by
  obtain ⟨u1, u2, hh, h1, h2⟩ := h
  exact ⟨u1, u2, hh, h1.avoid hg hne, h2.avoid hg hne⟩
/-- What Add gives, kept in a box of its own. -/
def AddR (wr : World) (n : Nat) (s1 s2 : Value) (wc : World) : Prop :=
  ∃ g c1 d1 c2 d2, s1 = .pointer (some ⟨g, 0, none⟩) ∧ s2 = .int .i64 0 ∧ RtBox wc g n c1 d1 c2 d2 ∧ Below wr.heap.size wr wc ∧ wr.heap.size ≤ g
theorem RtBox.lay {w4 : World} {n d1 d2 : Nat} {c1 c2 : Option Addr} {S : Nat → Prop} (hv : VRt S w4 (.agg #[.bool false, .slice c1 (lim n).length d1, .slice c2 1 d2]) (whole (n : Int))) :
    RtBox (w4.alloc (.cells #[.bool false, .slice c1 (lim n).length d1, .slice c2 1 d2] 54)) w4.heap.size n c1 d1 c2 d2 :=
  ⟨box_new _ _, (hv.same (.of_below (below_new _ _))).avoid (box_new _ _) (bss_ne _ _ _ (by simp) (by simp))⟩
theorem RtBox.store {w4 : World} {g n d1 d2 : Nat} {c1 c2 : Option Addr} {S : Nat → Prop} {x : Bool} {a1 a2 : Option Addr} {m1 m2 k1 k2 : Nat} (hg : w4.heap[g]? = some (.cells #[.bool x, .slice a1 m1 k1, .slice a2 m2 k2] 54 (0, 0)))
    (hv : VRt S w4 (.agg #[.bool false, .slice c1 (lim n).length d1, .slice c2 1 d2]) (whole (n : Int))) :
    RtBox (((w4.setCell ⟨g, 0, none⟩ (.bool false)).setCell ⟨g, 1, none⟩ (.slice c1 (lim n).length d1)).setCell ⟨g, 2, none⟩ (.slice c2 1 d2)) g n c1 d1 c2 d2 := by
  refine ⟨?_, ?_⟩
  · have := heap_setCell_at (o := 2) (heap_setCell_at (o := 1) (heap_setCell_at (o := 0) hg (.bool false)) (.slice c1 (lim n).length d1)) (.slice c2 1 d2)
    simpa using this
  · exact (hv.avoid hg (bss_ne _ _ _ (by simp) (by simp))).same ((((Same.refl _ _).setCell (p := ⟨g, 0, none⟩) (by simp) _).setCell (p := ⟨g, 1, none⟩) (by simp) _).setCell (p := ⟨g, 2, none⟩) (by simp) _)
theorem AddR.laid {wr w4 : World} {n d1 d2 : Nat} {c1 c2 : Option Addr} {S : Nat → Prop} (hv : VRt S w4 (.agg #[.bool false, .slice c1 (lim n).length d1, .slice c2 1 d2]) (whole (n : Int))) (hw : Below wr.heap.size wr w4) :
    AddR wr n (.pointer (some ⟨w4.heap.size, 0, none⟩)) (.int .i64 0) (w4.alloc (.cells #[.bool false, .slice c1 (lim n).length d1, .slice c2 1 d2] 54)) :=
  ⟨_, _, _, _, _, rfl, rfl, .lay hv, hw.alloc hw.size _, hw.size⟩
theorem AddR.stored {wr w4 : World} {g n d1 d2 : Nat} {c1 c2 : Option Addr} {S : Nat → Prop} {cs : Array Value} (hcs : cs = #[.bool false, .slice none 0 0, .slice none 0 0]) (hg : w4.heap[g]? = some (.cells cs 54 (0, 0)))
    (hv : VRt S w4 (.agg #[.bool false, .slice c1 (lim n).length d1, .slice c2 1 d2]) (whole (n : Int))) (hw : Below wr.heap.size wr w4) (hgw : wr.heap.size ≤ g) :
    AddR wr n (.pointer (some ⟨g, 0, none⟩)) (.int .i64 0) (((w4.setCell ⟨g, 0, none⟩ (.bool false)).setCell ⟨g, 1, none⟩ (.slice c1 (lim n).length d1)).setCell ⟨g, 2, none⟩ (.slice c2 1 d2)) := by
  subst hcs
  exact ⟨_, _, _, _, _, rfl, rfl, .store hg hv, ((hw.setCell (p := ⟨g, 0, none⟩) hgw _).setCell (p := ⟨g, 1, none⟩) hgw _).setCell (p := ⟨g, 2, none⟩) hgw _, hgw⟩
theorem whole_same {S T : Nat → Prop} {u v : Value} {a b : Nat} {w : World} (hab : a = b) (hx : VRt S w u (whole (a : Int))) (hy : VRt T w v (whole (b : Int))) : Calls Tryz.prog 28 #[u, v] w fun e w' => e = .returned (.bool true) ∧ Below w.heap.size w w' := by
  subst hab
  exact r04Same_eq S T u v _ w hx hy
end Go.Proofs.YtogngcbflhdadaaGreat

/- The contract of profile.Sum where the sum exceeds the limits (printed by genprofn.py). -/
namespace Go.Proofs.YtogngcbflhdadaaGreat
open Go Go.RowKit Go.Shelf

set_option maxHeartbeats 4000000 in
set_option maxRecDepth 100000 in
theorem profSum_bad (S S2 : Nat → Prop) (c k : Int) (r1 r2 : List Row) (u v : Value) (w : World) (h1 : VProf S w u ⟨c, k, r1⟩) (h2 : VProf S2 w v ⟨c, k, r2⟩) (g1 : chkP ⟨c, k, r1⟩ = 0) (g2 : chkP ⟨c, k, r2⟩ = 0) (g3 : chkP ⟨c, k, addR r1 r2⟩ ≠ 0) :
    Calls Tryz.prog 42 #[u, v] w fun e w' => e = .returned (.tuple #[.agg #[.int .i64 0, .int .u8 0, .slice none 0 0], .int .i64 (chkP ⟨c, k, addR r1 r2⟩)]) ∧ Below w.heap.size w w' := by
  have hv1 := chkP_zero.1 g1
  have hv2 := chkP_zero.1 g2
  obtain ⟨I, hI⟩ : ∃ I, chkP ⟨c, k, addR r1 r2⟩ = I := ⟨_, rfl⟩
  rw [hI] at g3 ⊢
  have h10 := h1
  have h20 := h2
  obtain ⟨a1, c1, rfl, hk1, hk2, hR⟩ := h1
  obtain ⟨a2, c2, rfl, -, -, hQ⟩ := h2
  simp only at h10 h20 hk1 hk2 hR hQ
  have hmany2 : ∀ r ∈ r2, 0 < r.many ∧ r.many ≤ 1000000 := fun r hr => hv2.many r hr
  have hl1 : r1.length ≤ 64 := hv1.rows
  have hl2 : r2.length ≤ 64 := hv2.rows
  have ha1 : Asc r1 := hv1.asc
  have hs1 : sumR r1 ≤ 1000000 := hv1.sum
  have hs2 : sumR r2 ≤ 1000000 := hv2.sum
  obtain ⟨W0, hW0⟩ : ∃ W0, W0 = ((w.alloc (.cells #[.int .i64 c, .int .u8 k, .slice a1 r1.length c1] 24)).alloc (.cells #[.int .i64 c, .int .u8 k, .slice a2 r2.length c2] 24)).alloc (.cells #[.int .i64 0, .int .u8 0, .slice none 0 0] 24) := ⟨_, rfl⟩
  have hb0 : Below w.heap.size w W0 := by rw [hW0]; exact ((below_new w _).alloc (by simp) _).alloc (by simp; omega) _
  have hz0 : W0.heap.size = w.heap.size + 3 := by rw [hW0]; simp
  have x0 : W0.heap[w.heap.size]? = some (.cells #[.int .i64 c, .int .u8 k, .slice a1 r1.length c1] 24 (0, 0)) := by rw [hW0]; exact box_old _ (box_old _ (box_new _ _))
  have x1 : W0.heap[w.heap.size + 1]? = some (.cells #[.int .i64 c, .int .u8 k, .slice a2 r2.length c2] 24 (0, 0)) := by
    rw [hW0]
    have := box_new (w.alloc (.cells #[.int .i64 c, .int .u8 k, .slice a1 r1.length c1] 24)) (.cells #[.int .i64 c, .int .u8 k, .slice a2 r2.length c2] 24)
    rw [World.size_alloc] at this
    exact box_old _ this
  have x2 : W0.heap[w.heap.size + 2]? = some (.cells #[.int .i64 0, .int .u8 0, .slice none 0 0] 24 (0, 0)) := by
    rw [hW0]
    have := box_new ((w.alloc (.cells #[.int .i64 c, .int .u8 k, .slice a1 r1.length c1] 24)).alloc (.cells #[.int .i64 c, .int .u8 k, .slice a2 r2.length c2] 24)) (.cells #[.int .i64 0, .int .u8 0, .slice none 0 0] 24)
    rwa [World.size_alloc, World.size_alloc] at this
  have hB := profBoth_ok S S2 c k r1 r2 a1 a2 r1.length r2.length c1 c2 W0 (h10.same (.of_below hb0)) (h20.same (.of_below hb0)) g1 g2
  have hKK := fun W (hW : Below W0.heap.size W0 W) => And.intro (own_box hW (by omega) x0) (And.intro (own_box hW (by omega) x1) (own_box hW (by omega) x2))
  have hR1 : RRows (Cut S w.heap.size) w (.slice a1 r1.length c1) r1 := hR.cut
  have hQ1 : RRows (Cut S2 w.heap.size) w (.slice a2 r2.length c2) r2 := hQ.cut
  have hT := fun W (hW : Below w.heap.size w W) => profTwin (Cut S w.heap.size) a1 c1 ⟨c, k, r1⟩ W (hR1.same (fun b _ hs => hW.block b hs.2)) (fun b hb => by have := hb.2; have := hW.size; omega) hv1.rows hv1.marks
  simp only at hT
  have hTw := fun w1 rv w2 (h1 : Below w.heap.size w w1) hz hg h2 ho => held_twin (c := c) (k := k) (rows := r1) (rv := rv) (w := w) (w1 := w1) (w2 := w2) (S := Cut S w.heap.size) (x := .slice a1 r1.length c1) rfl (fun b hb => hb.2) h1 hz hg h2 ho
  have hasc : ∀ i, Asc (addR r1 (r2.take i)) ∧ sumR (addR r1 (r2.take i)) = sumR r1 + sumR (r2.take i) := fun i => by
    obtain ⟨k1, -, k3⟩ := addR_spec (r2.take i) ha1 (fun r hr => (hmany2 r (List.mem_of_mem_take hr)).1)
    exact ⟨k1, k3⟩
  have hlen : ∀ i, (addR r1 (r2.take i)).length ≤ 128 := fun i => by
    have := addR_len (r2.take i) r1
    have h3 : (r2.take i).length ≤ r2.length := by rw [List.length_take]; omega
    omega
  have hPut := fun e a n cap W i (hi : i < r2.length) mv (hW : Held (Cut S w.heap.size) w.heap.size e c k (addR r1 (r2.take i)) a n cap w W) (he : w.heap.size < e) (hm : RInts (Cut S2 w.heap.size) W mv r2[i].marks) =>
    profPut (TT (Cut S w.heap.size) e) (Cut S2 w.heap.size) e w.heap.size c k _ mv (addR r1 (r2.take i)) r2[i].marks r2[i].many W hW.box he hW.size hW.own (fun h => by rcases h with h | h; exact absurd h.2 (by omega); omega) (fun b hb => .inr (by have := hW.size; omega)) ⟨hk1, hk2⟩ (hasc i).1
      hm (by have := (hv2.marks _ (List.getElem_mem hi)); omega) (by have := hlen i; omega) (fun r hr => by
        have q1 := row_le (hasc i).1 r hr
        have q2 := (hasc i).2
        have q3 := sumR_takeL (fun r hr => (hmany2 r hr).1) (b := r2) i
        have q4 := (hasc i).1.many r hr
        omega) (by have := hmany2 _ (List.getElem_mem hi); omega)
  have hPut2 : ∀ (e : Nat) (a : Option Addr) (n cap : Nat) (W w4 : World) (i : Nat) (hi : i < r2.length), Held (Cut S w.heap.size) w.heap.size e c k (addR r1 (r2.take i)) a n cap w W → w.heap.size < e → ∀ a' n' cap', w4.heap[w.heap.size]? = some (.cells #[.int .i64 c, .int .u8 k, .slice a' n' cap'] 24 (0, 0)) → OwnT (TT (Cut S w.heap.size) e) e w4 (.slice a' n' cap') (putR (addR r1 (r2.take i)) r2[i].marks r2[i].many) → PutFrame w.heap.size e W w4 →
      Held (Cut S w.heap.size) w.heap.size e c k (addR r1 (r2.take (i + 1))) a' n' cap' w w4 := fun e a n cap W w4 i hi h3 he a' n' cap' hb ho hf => ⟨hb, by rw [addR_take hi]; exact ho, h3.below.trans (hf.under (Nat.le_refl _) (by omega)), by have := hf.2.2.2.1; have := h3.size; omega⟩
  have hfull : addR r1 (r2.take r2.length) = addR r1 r2 := by rw [List.take_length]
  have hQw : ∀ e a n cap W, Held (Cut S w.heap.size) w.heap.size e c k (addR r1 r2) a n cap w W → Calls Tryz.prog 64 #[.agg #[.int .i64 c, .int .u8 k, .slice a n cap]] W fun e w' => e = .returned (.tuple #[.agg #[.int .i64 0, .int .u8 0, .slice none 0 0], .int .i64 I]) ∧ Below W.heap.size W w' := fun e a n cap W hW => by
    have hv2 := hW.vprof ⟨hk1, hk2⟩ (by have := hlen r2.length; rw [hfull] at this; omega)
    have hnn := hW.n
    subst hnn
    have := profWhole Any a cap ⟨c, k, addR r1 r2⟩ W hv2
    rw [WholeGives_def, hI, if_neg g3] at this
    exact this
  have hEnd := fun e a n cap W W5 (hW : Held (Cut S w.heap.size) w.heap.size e c k (addR r1 r2) a n cap w W) (he : w.heap.size + 2 < e) hb => hW.end (W5 := W5) rfl (fun b hb => hb.2) ⟨hk1, hk2⟩ (by have := hlen r2.length; rw [hfull] at this; omega) hb (w.heap.size + 2) (by omega)
  have hz00 : (addR r1 (r2.take 0)) = r1 := by simp [addR]
  have HB := Lib.hid hB; have HKK := Lib.hid hKK; have HT := Lib.hid hT; have HTw := Lib.hid hTw; have HPut := Lib.hid hPut; have HPut2 := Lib.hid hPut2; have HQw := Lib.hid hQw; have HEnd := Lib.hid hEnd; have HB0 := Lib.hid hb0; have HZ0 := Lib.hid hz0; have Hz00 := Lib.hid hz00; have HQ1 := Lib.hid hQ1; have Hfull := Lib.hid hfull
  clear hB hKK hT hTw hPut hPut2 hQw hEnd hb0 hz0 hz00 hR1 hQ1 hfull hasc hlen x0 x1 x2 h10 h20 hR hQ g1 g2 g3 hI hv1 hv2 hmany2 ha1 hs1 hs2
  subst hW0
  go_enter Tryz.func42, Tryz.ntmps42
  go_wp2_with (first
    | (go_at_call 78; refine HB.out.mono ?_; rintro e w1 ⟨rfl, hb1⟩; obtain ⟨⟨q0, k0, f0⟩, ⟨q1, k1, f1⟩, ⟨q2, k2, f2⟩⟩ := HKK.out _ hb1; have hlt2 := size_of_box q2; have hq1 := HB0.out.trans (hb1.mono (by simp; omega)); have hz1 : w.heap.size + 2 < w1.heap.size := hlt2; clear hb1)
    | (go_at_call 62; refine (HT.out w1 hq1).mono ?_; rintro e w2 ⟨rv, rfl, ho2, hb2⟩; have hH := HTw.out w1 rv w2 hq1 hz1 q0 hb2 ho2; obtain ⟨a3, cap3, rfl, hH3⟩ := hH; obtain ⟨p0, j0, l0⟩ := own_box hb2 (size_of_box q0) q0; obtain ⟨p1, j1, l1⟩ := own_box hb2 (size_of_box q1) q1; obtain ⟨p2, j2, l2⟩ := own_box hb2 (size_of_box q2) q2; have HH3 := Lib.hid hH3; have hlt20 := size_of_box p0; have hlt21 := size_of_box p1; have Hp2 := Lib.hid p2; clear hH3 ho2 p0 p1 p2 q0 q1 q2 k0 k1 k2 f0 f1 f2 hb2))
  have hzb : (((w2.setCell ⟨w.heap.size, 0, none⟩ (.int .i64 c)).setCell ⟨w.heap.size, 1, none⟩ (.int .u8 k)).setCell ⟨w.heap.size, 2, none⟩ (.slice a3 r1.length cap3)).heap[w.heap.size + 2]? = some (.cells #[.int .i64 0, .int .u8 0, .slice none 0 0] 24 (0, 0)) :=
    (Below.heap_setCell _ _ _ _ (by simp)).trans ((Below.heap_setCell _ _ _ _ (by simp)).trans ((Below.heap_setCell _ _ _ _ (by simp)).trans Hp2.out))
  have Hzb := Lib.hid hzb
  clear hzb j0 l0 j1 l1 j2 l2 hlt20 hlt21
  go_loopw [21] (fun i wr => ∃ (kk : Nat) (a : Option Addr) (n cap : Nat), kk ≤ r2.length ∧ i = .int .i64 kk ∧ Hid (Held (Cut S w.heap.size) w.heap.size w1.heap.size c k (addR r1 (r2.take kk)) a n cap w wr) ∧ wr.heap[w.heap.size + 2]? = some (.cells #[.int .i64 0, .int .u8 0, .slice none 0 0] 24 (0, 0))) (fun i _ => r2.length - (intOf i).toNat)
  case atStart => exact ⟨0, a3, _, cap3, Nat.zero_le _, rfl, Lib.hid (by rw [Hz00.out]; exact HH3.out), Hzb.out⟩
  case round =>
    obtain ⟨kk, a, n, cap, hkk, rfl, hH, hzx⟩ := hrel
    by_cases hlt : kk < r2.length
    · obtain ⟨b5, off5, x5, y5, rfl, -, hbw5, hc5, hd5, hy⟩ := RSl.at2 (HQ1.out.same (fun b _ hs => hH.out.below.block b hs.2)) kk hlt
      obtain ⟨a6, cap6, rfl, rfl, hl6, -, hI6⟩ := hy.open
      have hnw := below_new wr (.cells #[.slice a6 r2[kk].marks.length cap6, .int .i64 r2[kk].many] 50)
      have hsz := hH.out.size
      have hHW := hH.out.step hnw (by omega)
      have hIW := RInts.same (.of_below hnw) hI6
      have hzw := box_old (.cells #[.slice a6 r2[kk].marks.length cap6, .int .i64 r2[kk].many] 50) hzx
      have HHW := Lib.hid hHW; have HIW := Lib.hid hIW; have Hzw := Lib.hid hzw
      clear hy hI6 hnw hHW hIW hzw hzx hH
      go_wp2_with (go_at_call 63; refine (HPut.out w1.heap.size a n cap _ kk hlt _ HHW.out (by omega) HIW.out).mono ?_; rintro e w4 ⟨⟨u0, rfl⟩, a4, n4, cap4, hb4, ho4, hf4⟩; have hH4 := HPut2.out _ _ _ _ _ _ kk hlt HHW.out (by omega) _ _ _ hb4 ho4 hf4; have g6 := (hf4.2.2.2.2 _ (show w.heap.size + 2 < w1.heap.size by omega) (by omega)).trans Hzw.out; have HH4 := Lib.hid hH4; have Hg6 := Lib.hid g6; clear hH4 ho4 hf4 hb4 g6)
      exact ⟨⟨kk + 1, a4, n4, cap4, by omega, by go_num, HH4, Hg6.out⟩, by simp [intOf]; omega⟩
    · have hke : kk = r2.length := by omega
      subst hke
      have hHf : Held (Cut S w.heap.size) w.heap.size w1.heap.size c k (addR r1 r2) a n cap w wr := by have := hH.out; rwa [Hfull.out] at this
      have hnn := hHf.n
      have hx0 := (own_box (Below.refl _ wr) (size_of_box hHf.box) hHf.box).2.1
      have e0 : wr.cell? ⟨w.heap.size, 0, none⟩ = some (.int .i64 c) := hx0 0
      have e1 : wr.cell? ⟨w.heap.size, 1, none⟩ = some (.int .u8 k) := hx0 1
      have e2 : wr.cell? ⟨w.heap.size, 2, none⟩ = some (.slice a n cap) := hx0 2
      have HHf := Lib.hid hHf; have Hzx := Lib.hid hzx
      clear hHf hH hx0 hzx hnn
      go_wp2_with (go_at_call 64; refine (HQw.out _ _ _ _ _ HHf.out).mono ?_; rintro e w5 ⟨rfl, hb5⟩; obtain ⟨p6, j6, l6⟩ := own_box hb5 (size_of_box Hzx.out) Hzx.out; have hlt6 := size_of_box p6; have HE := Lib.hid (HEnd.out _ _ _ _ _ _ HHf.out hz1 hb5); clear p6 hb5)
      refine bodyPost_ret (v := .tuple #[.agg #[.int .i64 0, .int .u8 0, .slice none 0 0], .int .i64 I]) (by simp [results, Tryz.results42, go_sem, j6]) rfl ⟨rfl, (HE.out _ _ _).2⟩
end Go.Proofs.YtogngcbflhdadaaGreat

/- The law SingleSum: its walk (printed by gensum.py). -/
namespace Go.Proofs.YtogngcbflhdadaaGreat
open Go Go.RowKit Go.Shelf Limb

/-- What is known of the counts of two profiles and of their sum. -/
structure SumF (r C : Nat) (p q : Prof) (lot : List Int) (x y z : List Int) (lx ly lz : Nat) : Prop where
  lenx : x.length = C
  leny : y.length = C
  lenz : z.length = C
  bx : ∀ i : Nat, 0 ≤ x.getD i 0 ∧ x.getD i 0 ≤ 10000000
  byy : ∀ i : Nat, 0 ≤ y.getD i 0 ∧ y.getD i 0 ≤ 10000000
  sum : ∀ i : Nat, i < C → z.getD i 0 = x.getD i 0 + y.getD i 0
  blx : lx ≤ 1000000
  bly : ly ≤ 1000000
  lost : lz = lx + ly
set_option maxHeartbeats 16000000 in
set_option maxRecDepth 100000 in
theorem law_ssum (u v s : Value) (rule : Int) (p q : Prof) (lot : List Int) (w : World) (_ : (Lit.int .i64 rule).wf = true) (h : VProf Any w u p) (hq : VProf Any w v q) (hv : RInts Any w s lot) :
    Calls Tryz.prog 10 #[.int .i64 rule, u, v, s] w fun e w' => e = .returned (.bool true) ∧ Below w.heap.size w w' := by
  have h1 := h
  have hq1 := hq
  obtain ⟨a, m, c, rfl⟩ := h.open
  obtain ⟨a', m', c', rfl⟩ := hq.open
  obtain ⟨a2, c2, rfl, -, -⟩ := RSl.shape hv
  obtain ⟨W0, hW0⟩ : ∃ W0, W0 = (w.alloc (.cells #[.int .i64 p.cands, .int .u8 p.kind, .slice a m c] 24)).alloc (.cells #[.int .i64 q.cands, .int .u8 q.kind, .slice a' m' c'] 24) := ⟨_, rfl⟩
  have hb0 : Below w.heap.size w W0 := by rw [hW0]; exact (below_new w _).alloc (by simp) _
  have hg0 : W0.heap[w.heap.size]? = some (.cells #[.int .i64 p.cands, .int .u8 p.kind, .slice a m c] 24 (0, 0)) := by rw [hW0]; exact box_old _ (box_new w _)
  have hg1 : W0.heap[w.heap.size + 1]? = some (.cells #[.int .i64 q.cands, .int .u8 q.kind, .slice a' m' c'] 24 (0, 0)) := by rw [hW0]; simpa using box_new (w.alloc (.cells #[.int .i64 p.cands, .int .u8 p.kind, .slice a m c] 24)) (.cells #[.int .i64 q.cands, .int .u8 q.kind, .slice a' m' c'] 24)
  have hP := h1.same (.of_below hb0)
  have hQ := hq1.same (.of_below hb0)
  have hL := hv.same (.of_below hb0)
  have hM1 := l11May Any Any rule _ _ p 1 lot W0 hP hL
  have hM2 := fun (W : World) (hW : Below W0.heap.size W0 W) => l11May Any Any rule _ _ q 1 lot W (hQ.same (.of_below hW)) (hL.same (.of_below hW))
  obtain ⟨A1, hA1⟩ : ∃ x, mayS rule p 1 lot = x := ⟨_, rfl⟩
  obtain ⟨A2, hA2⟩ : ∃ x, mayS rule q 1 lot = x := ⟨_, rfl⟩
  have hz0 : W0.heap.size = w.heap.size + 2 := by rw [hW0]; simp
  cases A1 with
  | false =>
    rw [hA1, hW0] at hM1
    obtain ⟨nl, hnl⟩ : ∃ x, lot.length = x := ⟨_, rfl⟩
    obtain ⟨cp, hcp⟩ : ∃ x, p.cands = x := ⟨_, rfl⟩
    obtain ⟨kp, hkp⟩ : ∃ x, p.kind = x := ⟨_, rfl⟩
    obtain ⟨cq, hcq⟩ : ∃ x, q.cands = x := ⟨_, rfl⟩
    obtain ⟨kq, hkq⟩ : ∃ x, q.kind = x := ⟨_, rfl⟩
    simp only [hnl, hcp, hkp, hcq, hkq] at hM1 hW0 ⊢
    have HM1 := Lib.hid hM1; have Hb0 := Lib.hid hb0; have HW0 := Lib.hid hW0
    clear hM1 hM2 hb0 hW0 hP hQ hL h h1 hq hq1 hv hA1 hA2 hg0 hg1 hnl hcp hkp hcq hkq hz0
    go_enter Tryz.func10, Tryz.ntmps10
    go_wp2_with (first
      | (go_at_call 25; refine HM1.out.mono ?_; rintro e w1 ⟨rfl, hb⟩; rw [← HW0.out] at hb; have hq := bt Hb0.out hb; clear hb)
      | (go_at_call 12; refine (wakes11 _).mono ?_; rintro e w2 ⟨rfl, hb⟩))
    go_ret
    exact ⟨rfl, bt hq hb⟩
  | true =>
    obtain ⟨r, rfl, hr, h0p⟩ := mayS_true hA1
    cases A2 with
    | false =>
      rw [hA1, hW0] at hM1
      simp only [hA2] at hM2
      obtain ⟨nl, hnl⟩ : ∃ x, lot.length = x := ⟨_, rfl⟩
      obtain ⟨cp, hcp⟩ : ∃ x, p.cands = x := ⟨_, rfl⟩
      obtain ⟨kp, hkp⟩ : ∃ x, p.kind = x := ⟨_, rfl⟩
      obtain ⟨cq, hcq⟩ : ∃ x, q.cands = x := ⟨_, rfl⟩
      obtain ⟨kq, hkq⟩ : ∃ x, q.kind = x := ⟨_, rfl⟩
      simp only [hnl, hcp, hkp, hcq, hkq] at hM1 hM2 hW0 hg1 ⊢
      have HM1 := Lib.hid hM1; have HM2 := Lib.hid hM2; have Hb0 := Lib.hid hb0; have HW0 := Lib.hid hW0; have G1 := Lib.hid hg1
      clear hM1 hM2 hb0 hW0 hP hQ hL h h1 hq hq1 hv hA1 hA2 hg0 hg1 hnl hcp hkp hcq hkq hz0 h0p
      have st0 := Lib.hid True.intro
      go_enter Tryz.func10, Tryz.ntmps10
      go_wp2_with (first
        | (have := st1; go_at_call 25; clear st1; refine (HM2.out _ q0).mono ?_; rintro e w2 ⟨rfl, hb⟩; have hq := bt q0 hb; clear hb this)
        | (have := st0; go_at_call 25; clear st0; refine HM1.out.mono ?_; rintro e w1 ⟨rfl, hb⟩; rw [← HW0.out] at hb; have q0 := hb; obtain ⟨pa, pb, pc, pl⟩ := box3 G1.out q0; clear hb this; have st1 := Lib.hid True.intro)
        | (go_at_call 12; refine (wakes11 _).mono ?_; rintro e w3 ⟨rfl, hb⟩))
      go_ret
      exact ⟨rfl, bt Hb0.out (bt hq hb)⟩
    | true =>
      obtain ⟨r', hr', -, h0q⟩ := mayS_true hA2
      obtain rfl : r = r' := by omega
      clear hr'
      simp only [hA1] at hM1
      simp only [hA2] at hM2
      obtain ⟨C, s1, hCp, hs1, hFp⟩ := facts h0p
      obtain ⟨C', s2, hCq, hs2, hFq⟩ := facts h0q
      obtain rfl : s1 = 1 := by omega
      obtain rfl : s2 = 1 := by omega
      obtain rfl : C = C' := by have := hFp.isLot.1; have := hFq.isLot.1; omega
      have hkp : p.kind = kindL r := (counted h0p).kind
      have hkq : q.kind = kindL r := (counted h0q).kind
      obtain ⟨pc, pk, pr⟩ := p
      obtain ⟨qc, qk, qr⟩ := q
      simp only at hCp hCq hkp hkq hP hQ hM1 hM2 hg0 hg1 hW0 hFp hFq ⊢
      subst hCp hCq
      obtain ⟨K, hK⟩ : ∃ K, kindL r = K := ⟨_, rfl⟩
      rw [hK] at hkp hkq
      subst hkp hkq
      have hv1 : chkP ⟨(C : Int), qk, pr⟩ = 0 := chk_of_single h0p
      have hv2 : chkP ⟨(C : Int), qk, qr⟩ = 0 := chk_of_single h0q
      have hll : lot.length = C := hFp.isLot.1
      have hc10 := hFp.c10
      have hlo : lot.length ≤ 1000000 := by omega
      have hLo := fun (W : World) (hW : Below W0.heap.size W0 W) => hL.same (.of_below hW)
      have hSb := fun (W : World) (hW : Below W0.heap.size W0 W) => profSum_bad Any Any (C : Int) qk pr qr _ _ W (hP.same (.of_below hW)) (hQ.same (.of_below hW)) hv1 hv2
      have hSo := fun (W : World) (hW : Below W0.heap.size W0 W) => profSum_ok Any Any (C : Int) qk pr qr _ _ W (hP.same (.of_below hW)) (hQ.same (.of_below hW)) hv1 hv2
      by_cases hsum : chkP ⟨(C : Int), qk, addR pr qr⟩ = 0
      · have h0s : singleI r ⟨(C : Int), qk, addR pr qr⟩ 1 lot = 0 := single_sum h0p hsum
        obtain ⟨C', s3, hCs, hs3, hFs⟩ := facts h0s
        obtain rfl : s3 = 1 := by omega
        obtain rfl : C = C' := by simp only at hCs; omega
        have hCt := fun (P : Prof) (W : World) (x : Value) (o : Outc) (n3 : Nat) (hW : Below W0.heap.size W0 W) (hx : VProf Any W x P) (g0 : singleI r P 1 lot = 0) (gO : singleV r P 1 lot = o) (g1 : o.elected.length = 1) (g2 : o.rounds.length = 1) (g3 : o.ties.length = n3) => l11CountL r hr Any Any x _ P 1 lot W o hx (hL.same (.of_below hW)) hlo g0 gO g1 g2 g3
        have hPw := fun (W : World) (hW : Below W0.heap.size W0 W) => hP.same (.of_below hW)
        have hQw := fun (W : World) (hW : Below W0.heap.size W0 W) => hQ.same (.of_below hW)
        have hOx := hFp.out
        have hOy := hFq.out
        have hOz := hFs.out
        have hex := hFp.el
        have hey := hFq.el
        have hez := hFs.el
        obtain ⟨lx, hlx⟩ : ∃ n : Nat, lostS r pr = (n : Int) := ⟨(lostS r pr).toNat, by have := hFp.blost; simp only at this; omega⟩
        obtain ⟨ly, hly⟩ : ∃ n : Nat, lostS r qr = (n : Int) := ⟨(lostS r qr).toNat, by have := hFq.blost; simp only at this; omega⟩
        obtain ⟨lz, hlz⟩ : ∃ n : Nat, lostS r (addR pr qr) = (n : Int) := ⟨(lostS r (addR pr qr)).toNat, by have := hFs.blost; simp only at this; omega⟩
        have hSF : SumF r C ⟨(C : Int), qk, pr⟩ ⟨(C : Int), qk, qr⟩ lot (hadL r pr C) (hadL r qr C) (hadL r (addR pr qr) C) lx ly lz := ⟨hFp.hlen, hFq.hlen, hFs.hlen, hFp.pts, hFq.pts, fun i hi => by
            have e : ∀ rows : List Row, (hadL r rows C).getD i 0 = hadF r rows C i := fun rows => by
              rw [List.getD_eq_getElem?_getD, List.getElem?_eq_getElem (by rw [hadL_length]; exact hi)]
              simp only [hadL_fl, Option.getD_some]
              rw [fl_get]
            rw [e, e, e, hadF_add], by have := hFp.blost; simp only at this; omega, by have := hFq.blost; simp only at this; omega, by
            have := lostS_add r qr pr
            omega⟩
        simp only [hlx, hly, hlz] at hOx hOy hOz
        obtain ⟨x, hx⟩ : ∃ l, hadL r pr C = l := ⟨_, rfl⟩
        obtain ⟨y, hy⟩ : ∃ l, hadL r qr C = l := ⟨_, rfl⟩
        obtain ⟨z, hz⟩ : ∃ l, hadL r (addR pr qr) C = l := ⟨_, rfl⟩
        simp only [hx] at hOx hex hSF
        simp only [hy] at hOy hey hSF
        simp only [hz] at hOz hez hSF
        obtain ⟨ex, hxe⟩ : ∃ l, (seatSt x lot 1).elected = l := ⟨_, rfl⟩
        obtain ⟨ey, hye⟩ : ∃ l, (seatSt y lot 1).elected = l := ⟨_, rfl⟩
        obtain ⟨ez, hze⟩ : ∃ l, (seatSt z lot 1).elected = l := ⟨_, rfl⟩
        obtain ⟨tx, htx⟩ : ∃ l, (seatSt x lot 1).ties = l := ⟨_, rfl⟩
        obtain ⟨ty, hty⟩ : ∃ l, (seatSt y lot 1).ties = l := ⟨_, rfl⟩
        obtain ⟨tz, htz⟩ : ∃ l, (seatSt z lot 1).ties = l := ⟨_, rfl⟩
        rw [hxe, htx] at hOx; rw [hye, hty] at hOy; rw [hze, htz] at hOz
        rw [hxe] at hex; rw [hye] at hey; rw [hze] at hez
        obtain ⟨n1, hn1⟩ : ∃ n, tx.length = n := ⟨_, rfl⟩
        obtain ⟨n2, hn2⟩ : ∃ n, ty.length = n := ⟨_, rfl⟩
        obtain ⟨n3, hn3⟩ : ∃ n, tz.length = n := ⟨_, rfl⟩
        have hCx := fun W hW => hCt _ W _ _ n1 hW (hPw W hW) h0p hOx hex rfl hn1
        have hCy := fun W hW => hCt _ W _ _ n2 hW (hQw W hW) h0q hOy hey rfl hn2
        have hCz := fun W u hW hu => hCt _ W u _ n3 hW hu h0s hOz hez rfl hn3
        have hSo2 := fun W hW => hSo W hW hsum
        simp only [hll] at hM1 hM2 hCx hCy hCz hLo ⊢
        rw [hW0] at hM1
        obtain ⟨ns, hns⟩ : ∃ n, (addR pr qr).length = n := ⟨_, rfl⟩
        simp only [hns] at hSo2
        have HM1 := Lib.hid hM1; have HM2 := Lib.hid hM2; have HCx := Lib.hid hCx; have HCy := Lib.hid hCy; have HCz := Lib.hid hCz; have HSo := Lib.hid hSo2; have HSF := Lib.hid hSF; have Hb0 := Lib.hid hb0; have HW0 := Lib.hid hW0; have G0 := Lib.hid hg0; have G1 := Lib.hid hg1
        clear hM1 hM2 hCx hCy hCz hSo hSo2 hSb hSF hb0 hW0 hg0 hg1 hP hQ hL h h1 hq hq1 hv hA1 hA2 hz0 h0p h0q h0s hFp hFq hFs hv1 hv2 hll hlo hLo hsum hCt hPw hQw hOx hOy hOz hex hey hez hlx hly hlz hx hy hz hxe hye hze htx hty htz hn1 hn2 hn3 hns hCs hs1 hs2 hs3 hK
        have st0 := Lib.hid True.intro
        go_enter Tryz.func10, Tryz.ntmps10
        go_wp2_with (first
          | (have := st8; go_at_call 27; clear st8; refine (l11Had Any _ _ _ C _ HV8z.out rfl (by rw [List.length_map]; exact HSF.out.lenz)).mono ?_; rintro e w9 ⟨az, cz, rfl, kx, hb⟩; have q9 := bt q8 hb; have HZ := Lib.hid kx; have HX := Lib.hid (HX8.out.same (.of_below hb)); have HY := Lib.hid (HY8.out.same (.of_below hb)); have GX := Lib.hid ((hb.block _ (size_of_box GX8.out)).trans GX8.out); have GY := Lib.hid ((hb.block _ (size_of_box GY8.out)).trans GY8.out); have GZ := Lib.hid ((hb.block _ (size_of_box GZ8.out)).trans GZ8.out); have HVx := Lib.hid (VOutc.same (.of_below hb) HV8x.out); have HVy := Lib.hid (VOutc.same (.of_below hb) HV8y.out); have HVz := Lib.hid (VOutc.same (.of_below hb) HV8z.out); clear kx hb this p0 p1 p2 pl o0 o1 o2 ol HX8 HY8 GX8 GY8 GZ8 HV8x HV8y HV8z; obtain ⟨p0, p1, p2, pl⟩ := box3 G0.out q9; have st9 := Lib.hid True.intro)
          | (have := st7; go_at_call 27; clear st7; refine (l11Had Any _ _ _ C _ HV7y.out rfl (by rw [List.length_map]; exact HSF.out.leny)).mono ?_; rintro e w8 ⟨ay, cy, rfl, kx, hb⟩; have q8 := bt q7 hb; have HY8 := Lib.hid kx; have HX8 := Lib.hid (HX7.out.same (.of_below hb)); have GX8 := Lib.hid ((hb.block _ (size_of_box GX7.out)).trans GX7.out); have GY8 := Lib.hid ((hb.block _ (size_of_box GY7.out)).trans GY7.out); have GZ8 := Lib.hid ((hb.block _ (size_of_box GZ7.out)).trans GZ7.out); have HV8x := Lib.hid (VOutc.same (.of_below hb) HV7x.out); have HV8y := Lib.hid (VOutc.same (.of_below hb) HV7y.out); have HV8z := Lib.hid (VOutc.same (.of_below hb) HV7z.out); clear kx hb this p0 p1 p2 pl o0 o1 o2 ol HX7 GX7 GY7 GZ7 HV7x HV7y HV7z; obtain ⟨p0, p1, p2, pl⟩ := box3 G0.out q8; obtain ⟨o0, o1, o2, ol⟩ := box3 GZ8.out (Below.refl _ _); have st8 := Lib.hid True.intro)
          | (have := st6; go_at_call 27; clear st6; refine (l11Had Any _ _ _ C _ (VOutc.same (.of_below (below_new _ _)) HV6x.out) rfl (by rw [List.length_map]; exact HSF.out.lenx)).mono ?_; rintro e w7 ⟨ax, cx, rfl, kx, hb⟩; have hd := bt (below_new w6 _) hb; have q7 := bt q6 hd; have HX7 := Lib.hid kx; have GZ7 := Lib.hid (show w7.heap[w6.heap.size]? = some (.cells #[.slice b61 1 c61, .slice b62 1 c62, .slice b63 n3 c63] 32 (0, 0)) from lay_at (w := w6) (os := [.cells #[.slice b61 1 c61, .slice b62 1 c62, .slice b63 n3 c63] 32]) hb 0 rfl); have GX7 := Lib.hid ((hd.block _ (size_of_box GX6.out)).trans GX6.out); have GY7 := Lib.hid ((hd.block _ (size_of_box GY6.out)).trans GY6.out); have HV7x := Lib.hid (VOutc.same (.of_below hd) HV6x.out); have HV7y := Lib.hid (VOutc.same (.of_below hd) HV6y.out); have HV7z := Lib.hid (VOutc.same (.of_below hd) HV6z.out); clear kx hb hd this p0 p1 p2 pl o0 o1 o2 ol GX6 GY6 HV6x HV6y HV6z; obtain ⟨p0, p1, p2, pl⟩ := box3 G0.out q7; obtain ⟨o0, o1, o2, ol⟩ := box3 GY7.out (Below.refl _ _); have st7 := Lib.hid True.intro)
          | (have := st5; go_at_call 30; clear st5; refine (HCz.out _ _ (bt q5 (below_new _ _)) (HS5.out.same (.of_below (below_new _ _)))).mono ?_; rintro e w6 ⟨b61, c61, b62, c62, b63, c63, rfl, kv, hb⟩; have hd := bt (below_new w5 _) hb; have q6 := bt q5 hd; have GY6 := Lib.hid (show w6.heap[w5.heap.size]? = some (.cells #[.slice b51 1 c51, .slice b52 1 c52, .slice b53 n2 c53] 32 (0, 0)) from lay_at (w := w5) (os := [.cells #[.slice b51 1 c51, .slice b52 1 c52, .slice b53 n2 c53] 32]) hb 0 rfl); have GX6 := Lib.hid ((hd.block _ (size_of_box GX5.out)).trans GX5.out); have HV6x := Lib.hid (VOutc.same (.of_below hd) HV5x.out); have HV6y := Lib.hid (VOutc.same (.of_below hd) HV5y.out); have HV6z := Lib.hid kv; clear kv hb hd this p0 p1 p2 pl s0 s1 s2 sl GX5 GS5 HS5 HV5x HV5y; obtain ⟨p0, p1, p2, pl⟩ := box3 G0.out q6; obtain ⟨o0, o1, o2, ol⟩ := box3 GX6.out (Below.refl _ _); have st6 := Lib.hid True.intro)
          | (have := st4; go_at_call 30; clear st4; refine (HCy.out _ (bt q4 (below_new _ _))).mono ?_; rintro e w5 ⟨b51, c51, b52, c52, b53, c53, rfl, kv, hb⟩; have hd := bt (below_new w4 _) hb; have q5 := bt q4 hd; have GX5 := Lib.hid (show w5.heap[w4.heap.size]? = some (.cells #[.slice b41 1 c41, .slice b42 1 c42, .slice b43 n1 c43] 32 (0, 0)) from lay_at (w := w4) (os := [.cells #[.slice b41 1 c41, .slice b42 1 c42, .slice b43 n1 c43] 32]) hb 0 rfl); have GS5 := Lib.hid ((hd.block _ (size_of_box GS4.out)).trans GS4.out); have HS5 := Lib.hid (VProf.same (.of_below hd) HS4.out); have HV5x := Lib.hid (VOutc.same (.of_below hd) HV4.out); have HV5y := Lib.hid kv; clear kv hb hd this p0 p1 p2 pl r0 r1 r2 rl GS4 HS4 HV4; obtain ⟨p0, p1, p2, pl⟩ := box3 G0.out q5; obtain ⟨s0, s1, s2, sl⟩ := box3 GS5.out (Below.refl _ _); have st5 := Lib.hid True.intro)
          | (have := st3; go_at_call 30; clear st3; refine (HCx.out _ (bt q0 (below_new _ _))).mono ?_; rintro e w4 ⟨b41, c41, b42, c42, b43, c43, rfl, kv, hb⟩; have hd := bt (below_new w3 _) hb; have q4 := bt q0 hd; have GS4 := Lib.hid (show w4.heap[w3.heap.size]? = some (.cells #[.int .i64 C, .int .u8 qk, .slice a3 ns c3] 24 (0, 0)) from lay_at (w := w3) (os := [.cells #[.int .i64 C, .int .u8 qk, .slice a3 ns c3] 24]) hb 0 rfl); have HS4 := Lib.hid (VProf.same (.of_below hd) HS3.out); have HV4 := Lib.hid kv; clear kv hb hd this p0 p1 p2 pl r0 r1 r2 rl HS3 q0; obtain ⟨p0, p1, p2, pl⟩ := box3 G0.out q4; obtain ⟨r0, r1, r2, rl⟩ := box3 G1.out q4; have st4 := Lib.hid True.intro)
          | (have := st2; go_at_call 42; clear st2; refine (HSo.out _ q0).mono ?_; rintro e w3 ⟨a3, c3, rfl, kv, hb⟩; replace q0 := bt q0 hb; have HS3 := Lib.hid (VProf.mono (fun _ _ => trivial) kv : VProf Any w3 (.agg #[.int .i64 C, .int .u8 qk, .slice a3 ns c3]) ⟨(C : Int), qk, addR pr qr⟩); clear kv hb this p0 p1 p2 pl r0 r1 r2 rl; obtain ⟨p0, p1, p2, pl⟩ := box3 G0.out q0; obtain ⟨r0, r1, r2, rl⟩ := box3 G1.out q0; have st3 := Lib.hid True.intro)
          | (have := st1; go_at_call 25; clear st1; refine (HM2.out _ q0).mono ?_; rintro e w2 ⟨rfl, hb⟩; replace q0 := bt q0 hb; clear hb this r0 r1 r2 rl; obtain ⟨p0, p1, p2, pl⟩ := box3 G0.out q0; obtain ⟨r0, r1, r2, rl⟩ := box3 G1.out q0; have st2 := Lib.hid True.intro)
          | (have := st0; go_at_call 25; clear st0; refine HM1.out.mono ?_; rintro e w1 ⟨rfl, hb⟩; rw [← HW0.out] at hb; have q0 := hb; obtain ⟨r0, r1, r2, rl⟩ := box3 G1.out q0; clear hb this; have st1 := Lib.hid True.intro))
        clear p0 p1 p2 pl st9 q4 q5 q6 q7 q8
        have HQ := Lib.hid q9
        clear q9
        go_loopw [23, 24, 25] (fun i _ _ wr => ∃ k : Nat, k ≤ C ∧ i = .int .i64 k ∧ Hid (Below w9.heap.size w9 wr)) (fun i _ _ _ => C - (intOf i).toNat)
        case atStart => exact ⟨0, Nat.zero_le _, rfl, Lib.hid (Below.refl _ _)⟩
        case round =>
          obtain ⟨k, hk, rfl, hbr⟩ := hrel
          obtain ⟨p0, p1, p2, pl⟩ := box3 G0.out (bt HQ.out hbr.out)
          by_cases hlt : k < C
          · have hltI : (k : Int) < C := by omega
            have hlx : (x.map whole).length = C := by rw [List.length_map]; exact HSF.out.lenx
            have hly : (y.map whole).length = C := by rw [List.length_map]; exact HSF.out.leny
            have hlz : (z.map whole).length = C := by rw [List.length_map]; exact HSF.out.lenz
            obtain ⟨xb, xoff, xc, xd, xe, rfl, -, xl, x1, x2, x3, hx⟩ := RSl.at3 HX.out k (by omega)
            obtain ⟨yb, yoff, yc, yd, ye, rfl, -, yl, y1, y2, y3, hy⟩ := RSl.at3 HY.out k (by omega)
            obtain ⟨zb, zoff, zc, zd, ze, rfl, -, zl, z1, z2, z3, hz⟩ := RSl.at3 HZ.out k (by omega)
            rw [whole_at] at hx hy hz
            have bx := HSF.out.bx k
            have byy := HSF.out.byy k
            have hs := HSF.out.sum k hlt
            obtain ⟨xa, hxa⟩ : ∃ n : Nat, x.getD k 0 = (n : Int) := ⟨(x.getD k 0).toNat, by omega⟩
            obtain ⟨ya, hya⟩ : ∃ n : Nat, y.getD k 0 = (n : Int) := ⟨(y.getD k 0).toNat, by omega⟩
            obtain ⟨za, hza⟩ : ∃ n : Nat, z.getD k 0 = (n : Int) := ⟨(z.getD k 0).toNat, by omega⟩
            rw [hxa] at hx bx hs
            rw [hya] at hy byy hs
            rw [hza] at hz hs
            have hsz : xa + ya = za := by omega
            have hS := Same.of_below (S := Any) hbr.out
            have hzr := hbr.out.size
            have vx := (VRt.of hx).same (w' := wr) hS
            have vy := (VRt.of hy).same (w' := wr) hS
            have vz := (VRt.of hz).same (w' := wr) hS
            have hAdd := fun (W : World) (hW : Below wr.heap.size wr W) => ratAddW Any Any _ _ xa ya W (vx.same (.of_below hW)) (vy.same (.of_below hW)) (by omega) (by omega)
            obtain ⟨k1, j1, k2, j2, rfl, rfl, rfl, -, -⟩ := hx.open
            obtain ⟨k3, j3, k4, j4, rfl, rfl, rfl, -, -⟩ := hy.open
            obtain ⟨k5, j5, k6, j6, rfl, rfl, rfl, -, -⟩ := hz.open
            have cx1 := hS.cell trivial x1
            have cx2 := hS.cell trivial x2
            have cx3 := hS.cell trivial x3
            have cy1 := hS.cell trivial y1
            have cy2 := hS.cell trivial y2
            have cy3 := hS.cell trivial y3
            have cz1 := Lib.hid (hS.cell trivial z1)
            have cz2 := Lib.hid (hS.cell trivial z2)
            have cz3 := Lib.hid (hS.cell trivial z3)
            have lxb : xb < wr.heap.size := by omega
            have lyb : yb < wr.heap.size := by omega
            have Vz := Lib.hid vz; have HAdd := Lib.hid hAdd; have Hsz := Lib.hid hsz
            clear hAdd vx vy vz hx hy hz x1 x2 x3 y1 y2 y3 z1 z2 z3 hS hsz hs bx byy hxa hya hza hlx hly hlz
            go_upto_region 17 with fail
            go_cut [24, 25] from 114 to 142 (fun s24 s25 wc => AddR wr (xa + ya) s24 s25 wc)
            case first =>
              go_region_law (go_simp; go_at_call 41; refine (HAdd.out _ (by first | exact (Below.refl _ wr).drew | exact (Below.refl _ wr).drew.alloc (Nat.le_refl _) _ | exact ((Below.refl _ wr).alloc (Nat.le_refl _) _).drew)).mono ?_; rintro e w13 ⟨u1, m1, u2, m2, rfl, hv13, hb13⟩; (try (have hbyB := own_box (g := wr.heap.size) (cs := #[.bool false, .slice none 0 0, .slice none 0 0]) (e := 54) hb13 (by simp) (by first | exact box_new wr _ | exact box_new wr.drew _); obtain ⟨gyB, hcyB, hfyB⟩ := hbyB)))
              all_goals
                go_wp2_with fail
                go_meet
                have hbw : Below wr.heap.size wr w13 := by first | exact ((Below.refl _ wr).drew).trans hb13 | exact ((Below.refl _ wr).drew.alloc (Nat.le_refl _) _).trans (hb13.mono (by simp)) | exact (((Below.refl _ wr).alloc (Nat.le_refl _) _).drew).trans (hb13.mono (by simp))
                first
                | exact AddR.laid hv13 hbw
                | exact AddR.stored rfl gyB hv13 hbw (Nat.le_refl _)
            case rest =>
              obtain ⟨gA, u1, m1, u2, m2, rfl, rfl, hR, hbc, hgw⟩ := hcut
              obtain ⟨a0, a1', a2', al⟩ := box3 hR.box (Below.refl _ _)
              have hSm := fun q => whole_same Hsz.out (hR.val.same (.of_below (below_ext wc q))) ((Vz.out.same (.of_below hbc)).same (.of_below (below_ext wc q)))
              have hS := Same.of_below (S := Any) hbc
              have e0 := fun q => cell_ext (w := wc) a0 q
              have e1 := fun q => cell_ext (w := wc) a1' q
              have e2 := fun q => cell_ext (w := wc) a2' q
              have e3 := fun q => cell_ext (w := wc) (hS.cell trivial cz1.out) q
              have e4 := fun q => cell_ext (w := wc) (hS.cell trivial cz2.out) q
              have e5 := fun q => cell_ext (w := wc) (hS.cell trivial cz3.out) q
              have HSm := Lib.hid hSm; have Hbc := Lib.hid (bt hbr.out hbc)
              clear hSm hR hbc hS a0 a1' a2' al cx1 cx2 cx3 cy1 cy2 cy3 p0 p1 p2 pl
              go_wp2
              refine wp_region_ext (by kernel_rfl) (by kernel_rfl) ?_
              repeat (go_big_quiet_step ((go_at_call 28; have hh := HSm.out; exact calls_ext (v := .bool true) (hh _))))
              refine wpQuiet_nil ?_
              intro w8 hw'
              have hb8 : Below wc.heap.size wc w8 := by obtain ⟨q, rfl⟩ := hw'; exact below_ext wc q
              clear hw' e0 e1 e2 e3 e4 e5 HSm
              go_wp2
              exact ⟨⟨k + 1, by omega, by go_num, Lib.hid (bt Hbc.out hb8)⟩, by simp [intOf]; omega⟩
          · obtain rfl : C = k := by omega
            obtain ⟨g0, g1, g2, gl⟩ := box3 GX.out hbr.out
            obtain ⟨h0, h1, h2, hl⟩ := box3 GY.out hbr.out
            obtain ⟨f0, f1, f2, fl'⟩ := box3 GZ.out hbr.out
            obtain ⟨-, qx, -⟩ := HVx.out.parts
            obtain ⟨-, qy, -⟩ := HVy.out.parts
            obtain ⟨-, qz, -⟩ := HVz.out.parts
            have hS := Same.of_below (S := Any) hbr.out
            obtain ⟨xb, xoff, xd0, xd1, xd2, xd3, xd4, xd5, rfl, -, xl, x0, x1, x2, x3, x4, x5, hx⟩ := RSl.at6 (qx.same hS) 0 (by simp)
            obtain ⟨yb, yoff, yd0, yd1, yd2, yd3, yd4, yd5, rfl, -, yl, y0, y1, y2, y3, y4, y5, hy⟩ := RSl.at6 (qy.same hS) 0 (by simp)
            obtain ⟨zb, zoff, zd0, zd1, zd2, zd3, zd4, zd5, rfl, -, zl, z0, z1, z2, z3, z4, z5, hz⟩ := RSl.at6 (qz.same hS) 0 (by simp)
            obtain ⟨xs0, xn0, xt0, xs2, xn2, xt2, xs3, xn3, xt3, xs4, xn4, xt4, xs5, xn5, xt5, rfl, rfl, rfl, rfl, rfl, rfl, -, vx, -, -⟩ := hx.open
            obtain ⟨ys0, yn0, yt0, ys2, yn2, yt2, ys3, yn3, yt3, ys4, yn4, yt4, ys5, yn5, yt5, rfl, rfl, rfl, rfl, rfl, rfl, -, vy, -, -⟩ := hy.open
            obtain ⟨zs0, zn0, zt0, zs2, zn2, zt2, zs3, zn3, zt3, zs4, zn4, zt4, zs5, zn5, zt5, rfl, rfl, rfl, rfl, rfl, rfl, -, vz, -, -⟩ := hz.open
            simp only [List.getElem_cons_zero] at x1 vx y1 vy z1 vz
            simp only [Nat.zero_mul, Nat.add_zero] at x1 x2 x3 y1 y2 y3 z1 z2 z3
            have blx := HSF.out.blx
            have bly := HSF.out.bly
            have hAdd := fun (W : World) (hW : Below wr.heap.size wr W) => ratAddW Any Any _ _ lx ly W (vx.same (.of_below hW)) (vy.same (.of_below hW)) (by omega) (by omega)
            have cz1 := Lib.hid z1; have cz2 := Lib.hid z2; have cz3 := Lib.hid z3; have Cf1 := Lib.hid f1
            have Vz := Lib.hid vz; have HAdd := Lib.hid hAdd; have Hsz := Lib.hid (HSF.out.lost.symm)
            clear hAdd vx vy vz hx hy hz x0 x4 x5 y0 y4 y5 z0 z1 z2 z3 z4 z5 hS qx qy qz f0 f1 f2 hlt hk blx bly
            go_upto_region 20 with fail
            go_cut [26, 27] from 144 to 156 (fun s26 s27 wc => AddR wr (lx + ly) s26 s27 wc)
            case first =>
              go_region_law (go_simp; go_at_call 41; refine (HAdd.out _ (by first | exact (Below.refl _ wr).drew | exact (Below.refl _ wr).drew.alloc (Nat.le_refl _) _ | exact ((Below.refl _ wr).alloc (Nat.le_refl _) _).drew)).mono ?_; rintro e w13 ⟨u1, m1, u2, m2, rfl, hv13, hb13⟩; (try (have hbyB := own_box (g := wr.heap.size) (cs := #[.bool false, .slice none 0 0, .slice none 0 0]) (e := 54) hb13 (by simp) (by first | exact box_new wr _ | exact box_new wr.drew _); obtain ⟨gyB, hcyB, hfyB⟩ := hbyB)))
              all_goals
                go_wp2_with fail
                go_meet
                have hbw : Below wr.heap.size wr w13 := by first | exact ((Below.refl _ wr).drew).trans hb13 | exact ((Below.refl _ wr).drew.alloc (Nat.le_refl _) _).trans (hb13.mono (by simp)) | exact (((Below.refl _ wr).alloc (Nat.le_refl _) _).drew).trans (hb13.mono (by simp))
                first
                | exact AddR.laid hv13 hbw
                | exact AddR.stored rfl gyB hv13 hbw (Nat.le_refl _)
            case rest =>
              obtain ⟨gA, u1, m1, u2, m2, rfl, rfl, hR, hbc, hgw⟩ := hcut
              obtain ⟨a0, a1', a2', al⟩ := box3 hR.box (Below.refl _ _)
              have hSm := fun q => whole_same Hsz.out (hR.val.same (.of_below (below_ext wc q))) ((Vz.out.same (.of_below hbc)).same (.of_below (below_ext wc q)))
              have hS := Same.of_below (S := Any) hbc
              have e0 := fun q => cell_ext (w := wc) a0 q
              have e1 := fun q => cell_ext (w := wc) a1' q
              have e2 := fun q => cell_ext (w := wc) a2' q
              have e3 := fun q => cell_ext (w := wc) (hS.cell trivial cz1.out) q
              have e4 := fun q => cell_ext (w := wc) (hS.cell trivial cz2.out) q
              have e5 := fun q => cell_ext (w := wc) (hS.cell trivial cz3.out) q
              have e6 := fun q => cell_ext (w := wc) (hS.cell trivial Cf1.out) q
              have HSm := Lib.hid hSm; have Hbc := Lib.hid (bt hbr.out hbc)
              clear hSm hR hbc hS a0 a1' a2' al x1 x2 x3 y1 y2 y3 g0 g1 g2 gl h0 h1 h2 hl p0 p1 p2 pl
              go_wp2
              refine wp_region_ext (by kernel_rfl) (by kernel_rfl) ?_
              repeat (go_big_quiet_step (first
                | (go_at_call 28; have hh := HSm.out; exact calls_ext (v := .bool true) (hh _))
                | (go_at_call 12; exact calls_ext (v := .bool true) (wakes11 _))))
              refine wpQuiet_nil ?_
              intro w8 hw'
              have hb8 : Below wc.heap.size wc w8 := by obtain ⟨q, rfl⟩ := hw'; exact below_ext wc q
              clear hw'
              go_wp2
              go_ret
              exact ⟨rfl, bt Hb0.out (bt HQ.out (bt Hbc.out hb8))⟩
      · have hIb : (chkP ⟨(C : Int), qk, addR pr qr⟩ != 0) = true := by simpa using hsum
        have hSb2 := fun W hW => hSb W hW hsum
        obtain ⟨I, hI⟩ : ∃ I, chkP ⟨(C : Int), qk, addR pr qr⟩ = I := ⟨_, rfl⟩
        simp only [hI] at hSb2 hIb
        simp only [hll] at hM1 hM2 ⊢
        rw [hW0] at hM1
        have HM1 := Lib.hid hM1; have HM2 := Lib.hid hM2; have HSb := Lib.hid hSb2; have Hb0 := Lib.hid hb0; have HW0 := Lib.hid hW0; have G0 := Lib.hid hg0; have G1 := Lib.hid hg1
        clear hM1 hM2 hSb hSb2 hSo hb0 hW0 hg0 hg1 hP hQ hL h h1 hq hq1 hv hA1 hA2 hz0 h0p h0q hFp hFq hv1 hv2 hll hlo hLo hsum hI hs1 hs2 hK
        have st0 := Lib.hid True.intro
        go_enter Tryz.func10, Tryz.ntmps10
        go_wp2_with (first
          | (have := st2; go_at_call 42; clear st2; refine (HSb.out _ q0).mono ?_; rintro e w3 ⟨rfl, hb⟩; replace q0 := bt q0 hb; clear hb this; have st3 := Lib.hid True.intro)
          | (have := st1; go_at_call 25; clear st1; refine (HM2.out _ q0).mono ?_; rintro e w2 ⟨rfl, hb⟩; replace q0 := bt q0 hb; obtain ⟨pa, pb, pc, pl⟩ := box3 G0.out q0; obtain ⟨pd, pe, pf, pm⟩ := box3 G1.out q0; clear hb this; have st2 := Lib.hid True.intro)
          | (have := st0; go_at_call 25; clear st0; refine HM1.out.mono ?_; rintro e w1 ⟨rfl, hb⟩; rw [← HW0.out] at hb; have q0 := hb; obtain ⟨pd, pe, pf, pm⟩ := box3 G1.out q0; clear hb this; have st1 := Lib.hid True.intro)
          | (go_at_call 12; refine (wakes11 _).mono ?_; rintro e w4 ⟨rfl, hb⟩))
        go_ret
        exact ⟨rfl, bt Hb0.out (bt q0 (bt (below_new _ _) hb))⟩
end Go.Proofs.YtogngcbflhdadaaGreat

namespace Go.Proofs.YtogngcbflhdadaaGreat
open Go Go.RowKit Go.ChangeShapes Go.WideShapes Go.ChangeAt

set_option maxRecDepth 100000 in
theorem singleSum_lifted (os : Os) (started : os.Started) (H : Type) (enc : TypeId × Value → H) :
    ReturnsInHanded {} Tryz.checked os 10 .any (Rows.singleSumSpec.pre6 enc Tryz.prog Tryz.f10 Rows.singleSumRow.domain false) (Rows.singleSumSpec.post enc Tryz.prog Tryz.f10 false true false false) := by
  refine returnsInHanded_of_change_sized (C := Tryz.checked) Tryz.own started (by kernel_rfl) Tryz.func10
    (ChangeSpec.witness6 (enc := enc) (C := Tryz.checked) false ⟨#[], #[.int .i64 0, .agg #[.int .i64 0, .int .u8 0, .slice none 0 0], .agg #[.int .i64 0, .int .u8 0, .slice none 0 0], .slice none 0 0], []⟩ 8 (by kernel_rfl) (by kernel_rfl) (by kernel_rfl) (by kernel_rfl)) ?_
  intro W base args ds gs before hval0 hW hcnd hsz0 _
  have hval : ∀ (j : Nat) t v, Tryz.f10.params[j]? = some t → args[j]? = some v → Value.okWide Tryz.prog W .any base t v := hval0
  have hsz : (DataW.weightsEach Tryz.prog (Tryz.f10.params.toList ++ Rows.singleSumSpec.plain.varTypes Tryz.prog) (ds ++ gs)).all (· ≤ reachBytes) = true := hsz0
  have hW' := hW
  obtain ⟨p, q, hA0, hV, rfl, hfz, hnd⟩ := hW
  have hA : DataW.TrodAll enc Tryz.prog W 0 (fun _ => true) true Tryz.f10.params.toList args.toList ds p := hA0
  rw [Tryz.params10] at hA hval hsz
  obtain ⟨v0, vs0, d0, ds0, p0, q0, hargs, rfl, rfl, h0, r0⟩ := trodAll_cons hA
  obtain ⟨v1, vs1, d1, ds1, p1, q1, rfl, rfl, rfl, h1, r1⟩ := trodAll_cons r0
  obtain ⟨v2, vs2, d2, ds2, p2, q2, rfl, rfl, rfl, h2, r2⟩ := trodAll_cons r1
  obtain ⟨v3, vs3, d3, ds3, p3, q3, rfl, rfl, rfl, h3, r3⟩ := trodAll_cons r2
  obtain ⟨rfl, rfl, rfl⟩ := trodAll_nil r3
  obtain rfl : args = #[v0, v1, v2, v3] := by cases args; simp_all
  obtain ⟨rfl, rfl⟩ := trodVars_none hV
  have k0 := h0
  have k1 := h1
  have k2 := h2
  have k3 := h3
  have lt0 : ∀ x ∈ p0, x.block < W.heap.size := by obtain ⟨m, hm⟩ := k0; exact DataW.trod_lt m _ _ _ hm
  have lt1 : ∀ x ∈ p1, x.block < W.heap.size := by obtain ⟨m, hm⟩ := k1; exact DataW.trod_lt m _ _ _ hm
  have lt2 : ∀ x ∈ p2, x.block < W.heap.size := by obtain ⟨m, hm⟩ := k2; exact DataW.trod_lt m _ _ _ hm
  have lt3 : ∀ x ∈ p3, x.block < W.heap.size := by obtain ⟨m, hm⟩ := k3; exact DataW.trod_lt m _ _ _ hm
  obtain ⟨x0, rfl, e0, e0', wf0⟩ := open_int Tryz.underlying3 (hval 0 _ v0 rfl rfl) h0
  obtain ⟨x1, y1⟩ := arg_prof (hval 1 _ v1 rfl rfl) h1 (weights_at hsz 1 rfl rfl)
  obtain ⟨x2, y2⟩ := arg_prof (hval 2 _ v2 rfl rfl) h2 (weights_at hsz 2 rfl rfl)
  obtain ⟨x3, y3⟩ := arg_ints (hval 3 _ v3 rfl rfl) h3 (weights_at hsz 3 rfl rfl)
  clear hA0 hval0
  refine (law_ssum v1 v2 v3 x0 x1 x2 x3 W wf0 y1 y2 y3).mono fun e W' ⟨he, bel⟩ => ?_
  subst he
  exact ⟨_, rfl, _, _, _, [], _, [], hW', trodAll_mk1 (shut_bool Tryz.underlying4 _), (trodAll_cons_mk (Below.trod Tryz.laidOut (by kernel_rfl) (of_decide_eq_true (by kernel_rfl)) k0 bel lt0) (trodAll_cons_mk (Below.trod Tryz.laidOut (by kernel_rfl) (of_decide_eq_true (by kernel_rfl)) k1 bel lt1) (trodAll_cons_mk (Below.trod Tryz.laidOut (by kernel_rfl) (of_decide_eq_true (by kernel_rfl)) k2 bel lt2) (trodAll_cons_mk (Below.trod Tryz.laidOut (by kernel_rfl) (of_decide_eq_true (by kernel_rfl)) k3 bel lt3) trodAll_mk0)))), rfl, bel.frame _, fun h => by cases h⟩

theorem singleSum_named : Tryz.prog.funcNamed Rows.singleSumRow.func = some 10 := by kernel_rfl
theorem singleSum_facts : joinedFacts Tryz.prog 10 Tryz.f10 Rows.singleSumSpec Rows.singleSumRow = true := by kernel_rfl
theorem singleSum_inst : Tryz.f10.isInstance Tryz.prog Rows.singleSumRow.origin Rows.singleSumRow.targs := of_decide_eq_true (by kernel_rfl)
theorem singleSum_wrap : Tryz.f10.isWrapper Tryz.prog Rows.singleSumRow.wrapper Rows.singleSumRow.mainSum := by
  unfold Func.isWrapper
  rw [if_neg (of_decide_eq_false (by kernel_rfl))]
  exact ⟨rfl, rfl⟩
theorem singleSum_holds : Rows.SingleSumSaid :=
  OpenClaim.holds_of_wide 10 Tryz.f10 rfl rfl rfl rfl rfl rfl rfl ⟨rfl, rfl, rfl, rfl, rfl⟩ rfl rfl rfl rfl rfl singleSum_named Tryz.func10 singleSum_facts
    singleSum_inst singleSum_wrap
    (fun os started H enc _ => singleSum_lifted os started H enc)
#print axioms singleSum_holds
end Go.Proofs.YtogngcbflhdadaaGreat
