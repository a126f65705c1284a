/- Texts of one claim,put together: MeePa,WakM,WakN,LawM. -/
import Derived.Test.YthcbkhfmdginiaaGreatRGMeeK
import Derived.Test.YthcbkhfmdginiaaGreatRGMeeM
import Derived.Test.YthcbkhfmdginiaaGreatRGR18
import Derived.Test.YthcbkhfmdginiaaGreatRGSam
import Derived.Test.YthcbkhfmdginiaaGreatRGWakG
import Derived.Test.YthcbkhfmdginiaaGreatRGMeeP

namespace Go.Proofs.YthcbkhfmdginiaaGreat
section
open Go Go.RowKit Go.Shelf Limb

def keepsB (K : List Int) : Bool := K.all fun k => decide (0 ≤ k) && decide (k ≤ 1000000000)
def partsMI (marks K : List Int) : Int := if checkB ⟨1,marks⟩ K.length = 0 ∧ keepsB K = true then 0 else 2
def partsML (marks K : List Int) : List Int := if partsMI marks K = 0 then fl K.length fun x => partM K x 1000000000 marks else []
def partsMR (marks K : List Int) : Int := if partsMI marks K = 0 then restM K 1000000000 marks else 0
theorem keepsB_ok {K : List Int} (h : keepsB K = true) : (∀ x ∈ K,0 ≤ x ∧ x ≤ 1000000000) ∧ KOk K := by
 have h1 : ∀ x ∈ K,0 ≤ x ∧ x ≤ 1000000000 := fun x hx => by
  have := List.all_eq_true.1 h x hx
  simpa using this
 exact ⟨h1,(KInv.mk (C := K.length) rfl h1).ok⟩
theorem keepsB_any {K : List Int} : (K.any fun k => decide (k < 0) || decide (k > 1000000000)) = !keepsB K := by
 unfold keepsB
 induction K with
 | nil => rfl
 | cons x K ih =>
  rw [List.any_cons,List.all_cons,ih,Bool.not_and]
  congr 1
  rw [Bool.not_and]
  congr 1
  ·rw [Bool.eq_iff_iff];simp
  ·rw [Bool.eq_iff_iff];simp
theorem check_rank {marks : List Int} {c : Nat} (h : checkB ⟨1,marks⟩ c = 0) : (1 ≤ c ∧ c ≤ 10) ∧ marks.Nodup ∧ ∀ x ∈ marks,0 ≤ x ∧ x < (c : Int) := by
 unfold checkB at h
 split at h
 ·rename_i hc
  split at h
  ·rename_i hf
   exact ⟨by omega,rank_fine (r := ⟨1,marks⟩) rfl hf⟩
  ·cases h
 ·cases h
theorem meeParts1 (x : Int) (w : World) : Calls Tryz.prog 93 (#[.int .i64 x] ++ #[]) w fun e w' => e = .returned (.bool (decide (x < 0) || decide (x > 1000000000))) ∧ Below w.heap.size w w' := by
 by_cases h1 : x < 0
 ·have d1 : decide (x < 0) = true := decide_eq_true h1
  rw [d1,Bool.true_or]
  go_enter Tryz.func93,Tryz.ntmps93
  go_wp2
  go_ret
  exact ⟨rfl,Below.refl _ _⟩
 ·have d1 : decide (x < 0) = false := decide_eq_false h1
  rw [d1,Bool.false_or]
  by_cases h2 : x > 1000000000
  ·have d2 : decide (x > 1000000000) = true := decide_eq_true h2
   rw [d2]
   go_enter Tryz.func93,Tryz.ntmps93
   go_wp2
   go_ret
   exact ⟨rfl,Below.refl _ _⟩
  ·have d2 : decide (x > 1000000000) = false := decide_eq_false h2
   rw [d2]
   go_enter Tryz.func93,Tryz.ntmps93
   go_wp2
   go_ret
   exact ⟨rfl,Below.refl _ _⟩
theorem meeParts2 (bo g C : Nat) (x : Nat) (n : Int) (l : List Int) (w : World) (hb : w.heap[bo]? = some (.cells #[.slice (some ⟨g,0,none⟩) C C] 25 (0,0))) (hA : Arr .i64 w g 3 l) (hl : l.length = C) (hx : x < C) :
  Calls Tryz.prog 95 (#[.int .i64 (x : Int),.int .i64 n] ++ #[.pointer (some ⟨bo,0,none⟩)]) w fun e w' => e = .returned (.tuple #[]) ∧ w' = w.setCell ⟨g,x,none⟩ (.int .i64 n) := by
 have c0 : w.cell? ⟨bo,0,none⟩ = some (.slice (some ⟨g,0,none⟩) C C) := (qa6 (Below.refl _ w) (qa0 hb) hb).2.1 0
 have l0 := qa0 hb
 obtain ⟨z,c1⟩ : ∃ z,w.cell? ⟨g,x,none⟩ = some (.int .i64 z) := ⟨_,hA.cell (i := x) (by omega)⟩
 have f1 := hA.frozen x
 have l1 := hA.lt
 clear hb hA hl
 go_enter Tryz.func95,Tryz.ntmps95
 go_wp2
 go_returns
 exact ⟨rfl,rfl⟩
def GivesPM (marks K : List Int) (w : World) (e : Ending) (w' : World) : Prop := ∃ a n c,e = .returned (.tuple #[.slice a n c,.int .i64 (partsMR marks K),.int .i64 (partsMI marks K)]) ∧ RInts (From w.heap.size) w' (.slice a n c) (partsML marks K) ∧ Below w.heap.size w w'
set_option maxRecDepth 100000 in
set_option maxHeartbeats 4000000 in
theorem meePartsC (S T : Nat → Prop) (u v : Value) (marks K : List Int) (w : World) (hm : RInts S w u marks) (hk : RInts T w v K) (hKl : K.length ≤ 1000000) :
  Calls Tryz.prog 33 #[u,v] w (GivesPM marks K w) := by
 have hm0 := hm.cut
 have hk0 := hk.cut
 obtain ⟨a,cap,rfl,-,hml⟩ := RSl.shape hm
 obtain ⟨a2,cap2,rfl,-,-⟩ := RSl.shape hk
 obtain ⟨W0,hW0⟩ : ∃ W,W = (w.alloc (.cells #[.slice none 0 0] 25)).alloc (.cells #[.int .u8 1,.slice a marks.length cap] 61) := ⟨_,rfl⟩
 have hb0 : Below w.heap.size w W0 := by rw [hW0];exact ((Below.refl _ _).alloc (Nat.le_refl _) _).alloc (by simp) _
 have hbo : W0.heap[w.heap.size]? = some (.cells #[.slice none 0 0] 25 (0,0)) := by rw [hW0];exact qay _ (qa8 w _)
 have hmr := hm0.same (w' := W0) (.of_below hb0)
 have hkr := hk0.same (w' := W0) (.of_below hb0)
 have hC := ballotCheck (Cut S w.heap.size) (.agg #[.int .u8 1,.slice a marks.length cap]) ⟨1,marks⟩ K.length W0 ⟨_,_,rfl,_,rfl,show (0 : Int) ≤ 1 by decide,show (1 : Int) ≤ 255 by decide,hmr⟩
 have hF := fun W (hW : Below W0.heap.size W0 W) => slContainsF (Cut T w.heap.size) (.slice a2 K.length cap2) K W (hkr.same (.of_below hW)) hKl 93 #[] (enters_of Tryz.func93 (by kernel_rfl) rfl) (fun k => decide (k < 0) || decide (k > 1000000000)) (fun W2 x _ _ => meeParts1 x W2)
 rw [keepsB_any] at hF
 have hnil : ∀ W,Below w.heap.size w W → partsMI marks K = 2 → (∀ i,W.cell? ⟨w.heap.size,i,none⟩ = #[Value.slice none 0 0][i]?) → GivesPM marks K w (.returned (.tuple #[.slice none 0 0,.int .i64 0,.int .i64 2])) W := fun W hW h2 _ =>
  ⟨_,_,_,by rw [partsMR,h2,if_neg (by omega)],by rw [partsML,h2,if_neg (by omega)];exact RSl.nil,hW⟩
 by_cases hc : checkB ⟨1,marks⟩ K.length = 0
 ·obtain ⟨hC10, hnd, hrg⟩ := check_rank hc
  rw [hc] at hC
  cases hkb : keepsB K with
  | false =>
   have h2 : partsMI marks K = 2 := by rw [partsMI,if_neg (by rw [hkb];simp)]
   have hnil2 := fun W hW => hnil W hW h2
   rw [hkb] at hF
   obtain ⟨n,hn⟩ : ∃ n,marks.length = n := ⟨_,rfl⟩
   obtain ⟨C,hCC⟩ : ∃ n,K.length = n := ⟨_,rfl⟩
   rw [hn] at hC hW0 ⊢
   rw [hCC] at hC hF ⊢
   rw [hW0] at hC
   have HC := Lib.hid hC;have HF := Lib.hid hF;have HN := Lib.hid hnil2;have HW0 := Lib.hid hW0;have Hbo := Lib.hid hbo;have Hb0 := Lib.hid hb0
   clear hC hF hnil hnil2 hW0 hbo hb0 hmr hkr hm0 hk0 hm hk hKl hml hc hnd hrg hkb h2 hn hCC
   go_enter Tryz.func33,Tryz.ntmps33
   go_wp2_with (first
    | (go_at_call 91;refine HC.out.mono ?_;rintro e w1 ⟨rfl,hb1⟩;rw [← HW0.out] at hb1;have B1 := Lib.hid hb1;clear hb1)
    | (go_at_call 92;refine (HF.out _ B1.out).mono ?_;rintro e w2 ⟨rfl,hb2⟩;have B2 := Lib.hid (bt B1.out hb2);obtain ⟨g3,gc3,gf3⟩ := qa6 (bt B1.out hb2) (qa0 Hbo.out) Hbo.out;have gc30 := gc3 0;have gf30 := gf3 0;have hlt3 : w.heap.size < w2.heap.size := qa0 g3;clear hb2 g3))
   refine bodyPost_ret (v := .tuple #[.slice none 0 0,.int .i64 0,.int .i64 2]) (by simp [results,Tryz.results33,go_sem,gc3]) rfl (HN.out _ ?_ ?_)
   ·exact (bt Hb0.out B2.out).setCell (p := ⟨w.heap.size,0,none⟩) (Nat.le_refl _) _
   ·intro i
    have h1 := qa2 (qa6 B2.out (qa0 Hbo.out) Hbo.out).1 (o := 0) (.slice none 0 0)
    exact (qa6 (Below.refl _ _) (qa0 h1) h1).2.1 i
  | true =>
   have h2 : partsMI marks K = 0 := by rw [partsMI,if_pos ⟨hc,hkb⟩]
   obtain ⟨hkv,hKO⟩ := keepsB_ok hkb
   rw [hkb] at hF
   have hfin : ∀ W g,Below w.heap.size w W → w.heap.size ≤ g → Arr .i64 W g 3 (fl K.length fun x => partM K x 1000000000 (marks.take marks.length)) → GivesPM marks K w (.returned (.tuple #[.slice (some ⟨g,0,none⟩) K.length K.length,.int .i64 (restM K 1000000000 marks),.int .i64 0])) W := fun W g hW hg hA => by
    refine ⟨_,_,_,by rw [partsMR,h2,if_pos rfl],?_,hW⟩
    rw [partsML,if_pos h2]
    rw [List.take_length] at hA
    refine hA.all (S := From w.heap.size) hg (fun x hx => ?_) (by rw [qae];omega) (by rw [qae]) (Nat.le_refl _)
    obtain ⟨i,hi,rfl⟩ := List.getElem_of_mem hx
    rw [fl_get]
    have h1 := part_nonneg hKO (x := (i : Int)) (l := marks) (r := 1000000000) (by omega)
    have h2 := part_le hKO (x := (i : Int)) (l := marks) (r := 1000000000) (by omega)
    exact WalkArith.wf_i64 (by omega)
   have hml10 := nodup_len hnd hrg
   have hPs : ∀ (Y : World) (g : Nat), Below w.heap.size w Y → w.heap.size < g → Y.heap[w.heap.size]? = some (.cells #[.slice (some ⟨g, 0, none⟩) K.length K.length] 25 (0, 0)) → Arr .i64 Y g 3 (List.replicate K.length 0) →
     Calls Tryz.prog 94 #[.slice a marks.length cap,.slice a2 K.length cap2,.func (.func 95) #[] #[.pointer (some ⟨w.heap.size,0,none⟩)]] Y fun e w' => e = .returned (.int .i64 (restM K 1000000000 marks)) ∧ Below w.heap.size w w' ∧ w'.heap[w.heap.size]? = some (.cells #[.slice (some ⟨g,0,none⟩) K.length K.length] 25 (0,0)) ∧ Arr .i64 w' g 3 (fl K.length fun x => partM K x 1000000000 (marks.take marks.length)) := fun Y g hY hg hbY hAY => by
    have hP := meeParts (fun j W => (W.heap[w.heap.size]? = some (.cells #[.slice (some ⟨g,0,none⟩) K.length K.length] 25 (0,0)) ∧ Arr .i64 W g 3 (fl K.length fun x => partM K x 1000000000 (marks.take j))) ∧ Below w.heap.size w W) (Cut S w.heap.size) (Cut T w.heap.size) (.slice a marks.length cap) (.slice a2 K.length cap2) marks K Y 95 #[.pointer (some ⟨w.heap.size,0,none⟩)] (enters_of Tryz.func95 (by kernel_rfl) rfl)
     (by omega) hrg hKO ⟨⟨hbY, by
      have : (fl K.length fun x => partM K x 1000000000 (marks.take 0)) = List.replicate K.length 0 := by rw [← fl_zero];exact fl_congr fun x _ => rfl
      rw [this];exact hAY⟩,hY⟩ (fun j W W' ⟨⟨h1,h2⟩,h3⟩ hW => ⟨⟨qax hW h1,h2.below hW⟩,bt h3 hW⟩)
     (fun j W ⟨_,h3⟩ => hm0.same (.of_below h3)) (fun j W ⟨_,h3⟩ => hk0.same (.of_below h3))
     (fun j hj W ⟨⟨h1, h2⟩, h3⟩ => by
      obtain ⟨x0,x1⟩ := hrg _ (List.getElem_mem hj)
      obtain ⟨xn,hxn⟩ : ∃ xn : Nat,marks[j] = (xn : Int) := ⟨marks[j].toNat,by omega⟩
      have hxC : xn < K.length := by omega
      have hnin : (xn : Int) ∉ marks.take j := fun hm => by
       obtain ⟨i,hi,hq⟩ := List.getElem_of_mem hm
       rw [List.getElem_take] at hq
       rw [List.length_take] at hi
       have hij : i < marks.length := by omega
       have := (List.getElem_inj hnd).1 (show marks[i] = marks[j] from hq.trans hxn.symm)
       omega
      rw [hxn]
      refine (meeParts2 w.heap.size g K.length xn _ _ W h1 h2 (qae _ _) hxC).mono ?_
      rintro e w' ⟨e1,rfl⟩
      refine ⟨e1,⟨?_,?_⟩,h3.setCell (p := ⟨g,xn,none⟩) (Nat.le_of_lt hg) _⟩
      ·exact (Below.heap_setCell W ⟨g,xn,none⟩ _ _ (by dsimp only;omega)).trans h1
      ·have hs := h2.set xn (upU (restM K 1000000000 (marks.take j)) (gI K xn))
       rw [fl_set] at hs
       have he : (fl K.length fun x => partM K x 1000000000 (marks.take (j + 1))) = fl K.length fun z => if z = xn then upU (restM K 1000000000 (marks.take j)) (gI K xn) else partM K z 1000000000 (marks.take j) := fl_congr fun z _ => by
        rw [List.take_succ_eq_append_getElem hj,part_snoc,hxn]
        by_cases e : z = xn
        ·subst e;rw [if_pos rfl,if_pos rfl,part_out hnin,Int.zero_add]
        ·rw [if_neg (show ¬ (xn : Int) = (z : Int) by omega),if_neg e,Int.add_zero]
       rw [he]
       exact hs)
    exact hP.mono fun e w' ⟨h1,⟨h2,h3⟩,h4⟩ => ⟨h1,h4,h2,h3⟩
   have hmk := run_make_row' (P := Tryz.prog) 25 3 (.int .i64 0) 8 Tryz.underlying25 Tryz.infoInt rfl .i64 .i64 K.length (by omega) (by omega)
   obtain ⟨n,hn⟩ : ∃ n,marks.length = n := ⟨_,rfl⟩
   obtain ⟨C,hCC⟩ : ∃ n,K.length = n := ⟨_,rfl⟩
   rw [hn] at hC hW0 hfin hPs ⊢
   rw [hCC] at hC hF hfin hPs hmk ⊢
   rw [hW0] at hC
   obtain ⟨R,hR⟩ : ∃ R,restM K 1000000000 marks = R := ⟨_,rfl⟩
   rw [hR] at hfin hPs
   have HC := Lib.hid hC;have HF := Lib.hid hF;have HP := Lib.hid hPs;have HN := Lib.hid hfin;have HW0 := Lib.hid hW0;have Hbo := Lib.hid hbo;have Hb0 := Lib.hid hb0
   clear hC hF hnil hPs hfin hW0 hbo hb0 hmr hkr hm0 hk0 hm hk hKl hml hc hnd hrg hkb h2 hn hCC hR hkv hKO hml10
   go_enter Tryz.func33,Tryz.ntmps33
   go_upto_region 4 with (first
    | (go_at_call 91;refine HC.out.mono ?_;rintro e w1 ⟨rfl,hb1⟩;rw [← HW0.out] at hb1;have B1 := Lib.hid hb1;clear hb1)
    | (go_at_call 92;refine (HF.out _ B1.out).mono ?_;rintro e w2 ⟨rfl,hb2⟩;have B2 := Lib.hid (bt B1.out hb2);clear hb2))
   have hg2 := (qa6 B2.out (qa0 Hbo.out) Hbo.out)
   have gc0 := hg2.2.1 0
   have gf0 := hg2.2.2 0
   have hl2 := qa0 hg2.1
   have HG2 := Lib.hid hg2.1
   clear hg2
   go_upto_region 5 with fail
   clear hmk gc0 gf0
   obtain ⟨Y,hY⟩ : ∃ Y,Y = (w2.setCell ⟨w.heap.size,0,none⟩ (.slice (some ⟨w2.heap.size,0,none⟩) C C)).alloc (.cells (madeCells #[.int .i64 0] C) 3) := ⟨_,rfl⟩
   rw [← hY]
   have hbY : Below W0.heap.size W0 Y ∨ True := .inr trivial
   clear hbY
   have hgY : Y.heap[w.heap.size]? = some (.cells #[.slice (some ⟨w2.heap.size,0,none⟩) C C] 25 (0,0)) := by
    rw [hY];exact qay _ (qa2 HG2.out (o := 0) _)
   have hwY : Below w.heap.size w Y := by
    rw [hY]
    exact ((bt Hb0.out B2.out).setCell (p := ⟨w.heap.size,0,none⟩) (Nat.le_refl _) _).alloc (by rw [qai];omega) _
   have hAY : Arr .i64 Y w2.heap.size 3 (List.replicate C 0) := by
    have := Arr.madeN (k := .i64) (w2.setCell ⟨w.heap.size,0,none⟩ (.slice (some ⟨w2.heap.size,0,none⟩) C C)) C 3
    rw [qai] at this
    rw [hY];exact this
   have hPY := HP.out Y w2.heap.size hwY hl2 hgY hAY
   have HPY := Lib.hid hPY
   clear hPY hgY hwY hAY hY
   go_wp2_with (go_at_call 94;refine HPY.out.mono ?_;rintro e w5 ⟨rfl,b5,g5,a5⟩;obtain ⟨-,gc5,gf5⟩ := qa6 (Below.refl _ w5) (qa0 g5) g5;have gc50 := gc5 0;have gf50 := gf5 0;have hl5 := qa0 g5;have B5 := Lib.hid b5;have G5 := Lib.hid g5;have A5 := Lib.hid a5;clear b5 g5 a5)
   refine bodyPost_ret (v := .tuple #[.slice (some ⟨w2.heap.size,0,none⟩) C C,.int .i64 R,.int .i64 0]) (by simp [results,Tryz.results33,go_sem,gc5]) rfl (HN.out _ _ ?_ (Nat.le_of_lt hl2) ?_)
   ·exact B5.out.setCell (p := ⟨w.heap.size,0,none⟩) (Nat.le_refl _) _
   ·exact A5.out.other (p := ⟨w.heap.size,0,none⟩) (by dsimp only;omega) _
 ·have h2 : partsMI marks K = 2 := by rw [partsMI, if_neg (fun h => hc h.1)]
  have hnil2 := fun W hW => hnil W hW h2
  obtain ⟨n,hn⟩ : ∃ n,marks.length = n := ⟨_,rfl⟩
  obtain ⟨C,hCC⟩ : ∃ n,K.length = n := ⟨_,rfl⟩
  obtain ⟨I,hI⟩ : ∃ I,checkB ⟨1,marks⟩ K.length = I := ⟨_,rfl⟩
  rw [hI] at hC hc
  have hne : (I != 0) = true := by simpa using hc
  rw [hn] at hC hW0 ⊢
  rw [hCC] at hC ⊢
  rw [hW0] at hC
  have HC := Lib.hid hC;have HN := Lib.hid hnil2;have HW0 := Lib.hid hW0;have Hbo := Lib.hid hbo;have Hb0 := Lib.hid hb0
  clear hC hF hnil hnil2 hW0 hbo hb0 hmr hkr hm0 hk0 hm hk hKl hml hc h2 hn hCC hI
  go_enter Tryz.func33,Tryz.ntmps33
  go_wp2_with (go_at_call 91;refine HC.out.mono ?_;rintro e w2 ⟨rfl,hb1⟩;rw [← HW0.out] at hb1;have B2 := Lib.hid hb1;obtain ⟨g3,gc3,gf3⟩ := qa6 hb1 (qa0 Hbo.out) Hbo.out;have gc30 := gc3 0;have gf30 := gf3 0;have hlt3 : w.heap.size < w2.heap.size := qa0 g3;clear hb1 g3)
  refine bodyPost_ret (v := .tuple #[.slice none 0 0,.int .i64 0,.int .i64 2]) (by simp [results,Tryz.results33,go_sem,gc3]) rfl (HN.out _ ?_ ?_)
  ·exact (bt Hb0.out B2.out).setCell (p := ⟨w.heap.size,0,none⟩) (Nat.le_refl _) _
  ·intro i
   have h1 := qa2 (qa6 B2.out (qa0 Hbo.out) Hbo.out).1 (o := 0) (.slice none 0 0)
   exact (qa6 (Below.refl _ _) (qa0 h1) h1).2.1 i
end

section
open Go Go.RowKit Go.Shelf Limb

def exM : Prof := ⟨3,1,[⟨[0,1],6⟩,⟨[1],1⟩,⟨[2],3⟩]⟩
theorem exm1 : rankI exM 2 [0,1,2] = 0 := by decide +kernel
theorem exm2 : rankI exM 4 [0,1,2] = 2 := by decide +kernel
theorem exm3 : rankI ⟨0,0,[]⟩ 1 [] = 8 := by decide +kernel
def exMO : Outc := ⟨[0,1],[⟨[6000000000,1000000000,3000000000].map bill,bill 0,[0],[]⟩,⟨[3333333336,3666666664,3000000000].map bill,bill 0,[1],[]⟩],[]⟩
theorem exm4 : meeV exM 2 [0,1,2] = exMO := by
 rw [meeV,exm1,if_pos rfl]
 have e : meeS exM (2 : Int).toNat [0,1,2] exM.cands.toNat = ⟨[555555556,1000000000,1000000000],[2],exMO.elected,exMO.rounds,exMO.ties⟩ := by kernel_rfl
 rw [e]
theorem exm5 : quoMV 10 0 2 = 3333333334 ∧ quoMI 10 0 2 = 0 ∧ quoMV 1 1000000001 1 = 0 ∧ quoMI 1 1000000001 1 = 2 := by decide +kernel
theorem exm6 : keepMV 1000000000 6000000000 3333333334 = 555555556 ∧ passI 1000000000 6000000000 3333333334 = 0 ∧ keepMV 1 0 0 = 0 ∧ passI 1 0 0 = 2 := by decide +kernel
theorem exm7 : partsMI [0,1] [555555556,1000000000,1000000000] = 0 ∧ partsMR [0,1] [555555556,1000000000,1000000000] = 0 ∧ partsML [0,1] [555555556,1000000000,1000000000] = [555555556,444444444,0] := by decide +kernel
theorem exm8 : partsMI [0,0] [1,1] = 2 ∧ partsMR [0,0] [1,1] = 0 ∧ partsMI [0] [1000000001] = 2 ∧ partsMR [0] [1000000001] = 0 := by decide +kernel
set_option maxHeartbeats 1000000 in
/-- The law's round. -/
theorem l19Round (S : Nat → Prop) (v : Value) (had : List Int) (lost : Nat) (a1 : Option Addr) (n1 c1 : Nat) (a2 : Option Addr) (n2 c2 : Nat) (w : World) (h : RInts S w v had) (hl : had.length ≤ 1000000) (hn : ∀ x ∈ had,0 ≤ x ∧ x ≤ 1000000000000000) (h2 : lost ≤ 1000000000000000) :
  Calls Tryz.prog 78 #[v,.int .i64 lost,.slice a1 n1 c1,.slice a2 n2 c2] w fun e w' => ∃ ah nh ch an mn cn ad md cd,e = .returned (.agg #[.slice ah nh ch,.bool false,.slice an mn cn,.slice ad md cd,.slice a1 n1 c1,.slice a2 n2 c2]) ∧
   RRts (From w.heap.size) w' (.slice ah nh ch) (had.map bill) ∧ RU (From w.heap.size) w' (.slice an mn cn) (bill lost).num ∧ RU (From w.heap.size) w' (.slice ad md cd) (bill lost).den ∧ Below w.heap.size w w' := by
 obtain ⟨a,cap,rfl,-,-⟩ := RSl.shape h
 obtain ⟨W0,hW0⟩ : ∃ W,W = w.alloc (.cells #[.slice none 0 0,.bool false,.slice none 0 0,.slice none 0 0,.slice none 0 0,.slice none 0 0] 58) := ⟨_,rfl⟩
 have hb0 : Below w.heap.size w W0 := by rw [hW0];exact qa1 _ _
 have hg0 : W0.heap[w.heap.size]? = some (.cells #[.slice none 0 0,.bool false,.slice none 0 0,.slice none 0 0,.slice none 0 0,.slice none 0 0] 58 (0,0)) := by rw [hW0];exact qa8 _ _
 have hT := r18Told S _ had W0 (h.same (.of_below hb0)) hl hn
 have hT2 := fun W v (hv : RInts Any W v [(lost : Int)]) => r18Told Any v [(lost : Int)] W hv (by simp) (fun x hx => by rw [List.mem_singleton.1 hx];omega)
 have hz : w.heap.size + 1 = W0.heap.size := by rw [hW0];simp
 have hwl : (Lit.int .i64 (lost : Int)).wf = true := WalkArith.wf_i64 (by omega)
 have hml : (had.map bill).length ≤ 1000000 := by rw [List.length_map];exact hl
 obtain ⟨n,hnn⟩ : ∃ n,had.length = n := ⟨_,rfl⟩
 rw [hnn] at hT ⊢
 rw [hW0] at hT
 have HT := Lib.hid hT;have HT2 := Lib.hid hT2;have HW0 := Lib.hid hW0;have Hb0 := Lib.hid hb0;have Hg0 := Lib.hid hg0;have Hz := Lib.hid hz;have Hwl := Lib.hid hwl;have Hml := Lib.hid hml
 clear hT hT2 hW0 hb0 hg0 hz hwl hml h hl hn hnn
 have st0 := Lib.hid True.intro
 go_enter Tryz.func78,Tryz.ntmps78
 go_wp2_with (first
  | (have := st1;go_at_call 66;clear st1;refine (HT2.out _ _ (lit1 (qa8 w1 _) Hwl.out)).mono ?_;rintro e w2 ⟨v2,rfl,ho2,hb2⟩;obtain ⟨g2,p2,an,mn,cn,ad,md,cd,rfl,hc2,r1,r2⟩ := bill1 ho2;have B2 := Lib.hid (bt (qa1 w1 (.cells #[.int .i64 (lost : Int)] 3)) hb2);obtain ⟨x0,x1,x2⟩ := hc2 w2 (Below.refl _ _);obtain ⟨g3,z,f⟩ := qa6 (bt B1.out B2.out) (qa0 Hg0.out) Hg0.out;have f0 := f 0;have f1 := f 1;have f2 := f 2;have f3 := f 3;have f4 := f 4;have f5 := f 5;have z0 := z 0;have z1 := z 1;have z2 := z 2;have z3 := z 3;have z4 := z 4;have z5 := z 5;have hlt : w.heap.size < w2.heap.size := qa0 g3;have R1 := Lib.hid r1;have R2 := Lib.hid r2;clear hc2 ho2 hb2 r1 r2 g3 f z this)
  | (have := st0;go_at_call 66;clear st0;refine HT.out.mono ?_;rintro e w1 ⟨v1,rfl,ho1,hb1⟩;rw [← HW0.out] at ho1 hb1;obtain ⟨ah,nh,ch,rfl⟩ := Own.slice ho1;have Ho1 := Lib.hid ho1;have B1 := Lib.hid hb1;clear ho1 hb1 this;have st1 := Lib.hid True.intro))
 have hk := OwnX.rsl famRt (by omega) Ho1.out (by have := Hml.out;omega)
 have hs1 := B1.out.size
 have hs2 := B2.out.size
 have hzz := Hz.out
 refine bodyPost_ret (v := .agg #[.slice ah nh ch,.bool false,.slice an mn cn,.slice ad md cd,.slice a1 n1 c1,.slice a2 n2 c2]) (by simp [results,Tryz.results78,go_sem,z0,z1,z2,z3,z4,z5]) rfl ⟨_,_,_,_,_,_,_,_,_,rfl,?_,?_,?_,?_⟩
 ·refine RSl.mono (fun _ _ _ hd => dRt.mono (fun b hb => ?_) hd) (fun b hb => ?_) (RRts.same ((((((((Same.refl (fun b => b ≠ w.heap.size ∧ w.heap.size ≤ b) w2).setCell (p := ⟨w.heap.size, 0, none⟩) (by simp) _).setCell (p := ⟨w.heap.size, 1, none⟩) (by simp) _).setCell (p := ⟨w.heap.size, 2, none⟩) (by simp) _).setCell (p := ⟨w.heap.size, 3, none⟩) (by simp) _).setCell (p := ⟨w.heap.size, 4, none⟩) (by simp) _).setCell (p := ⟨w.heap.size, 5, none⟩) (by simp) _)) (RRts.same (.of_below B2.out) (RSl.mono (T := fun b => b ≠ w.heap.size ∧ w.heap.size ≤ b) (fun _ _ _ hd => dRt.mono (fun b hb => by have := hb.1; omega) hd) (fun b hb => by have := hb.1; omega) hk)))
  ·exact hb.2
  ·exact hb.2
 ·refine RSl.mono (fun _ _ _ h => h) (fun b hb => ?_) (RU.same ((((((((Same.refl (fun b => b ≠ w.heap.size ∧ w.heap.size ≤ b) w2).setCell (p := ⟨w.heap.size, 0, none⟩) (by simp) _).setCell (p := ⟨w.heap.size, 1, none⟩) (by simp) _).setCell (p := ⟨w.heap.size, 2, none⟩) (by simp) _).setCell (p := ⟨w.heap.size, 3, none⟩) (by simp) _).setCell (p := ⟨w.heap.size, 4, none⟩) (by simp) _).setCell (p := ⟨w.heap.size, 5, none⟩) (by simp) _)) (RU.mono (T := fun b => b ≠ w.heap.size ∧ w.heap.size ≤ b) (fun b hb => by have := hb.1; simp at this; omega) R1.out))
  exact hb.2
 ·refine RSl.mono (fun _ _ _ h => h) (fun b hb => ?_) (RU.same ((((((((Same.refl (fun b => b ≠ w.heap.size ∧ w.heap.size ≤ b) w2).setCell (p := ⟨w.heap.size, 0, none⟩) (by simp) _).setCell (p := ⟨w.heap.size, 1, none⟩) (by simp) _).setCell (p := ⟨w.heap.size, 2, none⟩) (by simp) _).setCell (p := ⟨w.heap.size, 3, none⟩) (by simp) _).setCell (p := ⟨w.heap.size, 4, none⟩) (by simp) _).setCell (p := ⟨w.heap.size, 5, none⟩) (by simp) _)) (RU.mono (T := fun b => b ≠ w.heap.size ∧ w.heap.size ≤ b) (fun b hb => by have := hb.1; simp at this; omega) R2.out))
  exact hb.2
 ·exact ((((((bt Hb0.out (bt B1.out B2.out)).setCell (p := ⟨w.heap.size,0,none⟩) (Nat.le_refl _) _).setCell (p := ⟨w.heap.size,1,none⟩) (Nat.le_refl _) _).setCell (p := ⟨w.heap.size,2,none⟩) (Nat.le_refl _) _).setCell (p := ⟨w.heap.size,3,none⟩) (Nat.le_refl _) _).setCell (p := ⟨w.heap.size,4,none⟩) (Nat.le_refl _) _).setCell (p := ⟨w.heap.size,5,none⟩) (Nat.le_refl _) _
end

section
open Go Go.RowKit Go.Shelf Limb

theorem mrowA {W : World} {v : Value} {r : Row} (h : RInts Any W v r.marks) (hw : (Lit.int .i64 r.many).wf = true) : Dec 2 (dRow Any) W [v,.int .i64 r.many] [r] := Dec.single rfl ⟨v,rfl,hw,h⟩
theorem wakm_lays (w : World) : VProf Any (lays w [.cells #[.int .i64 0,.int .i64 1] 3,.cells #[.int .i64 1] 3,.cells #[.int .i64 2] 3,.cells #[.slice (some ⟨w.heap.size,0,none⟩) 2 2,.int .i64 6,.slice (some ⟨w.heap.size + 1,0,none⟩) 1 1,.int .i64 1,.slice (some ⟨w.heap.size + 2,0,none⟩) 1 1,.int .i64 3] 66,.cells #[.int .i64 3,.int .u8 1,.slice (some ⟨w.heap.size + 3,0,none⟩) 3 3] 24,.cells #[.int .i64 0,.int .i64 1,.int .i64 2] 3]) (.agg #[.int .i64 3,.int .u8 1,.slice (some ⟨w.heap.size + 3,0,none⟩) 3 3]) exM ∧ RInts Any (lays w [.cells #[.int .i64 0,.int .i64 1] 3,.cells #[.int .i64 1] 3,.cells #[.int .i64 2] 3,.cells #[.slice (some ⟨w.heap.size,0,none⟩) 2 2,.int .i64 6,.slice (some ⟨w.heap.size + 1,0,none⟩) 1 1,.int .i64 1,.slice (some ⟨w.heap.size + 2,0,none⟩) 1 1,.int .i64 3] 66,.cells #[.int .i64 3,.int .u8 1,.slice (some ⟨w.heap.size + 3,0,none⟩) 3 3] 24,.cells #[.int .i64 0,.int .i64 1,.int .i64 2] 3]) (.slice (some ⟨w.heap.size + 5,0,none⟩) 3 3) [0,1,2] := by
 obtain ⟨W0,hW0⟩ : ∃ W0,W0 = lays w [.cells #[.int .i64 0,.int .i64 1] 3,.cells #[.int .i64 1] 3,.cells #[.int .i64 2] 3,.cells #[.slice (some ⟨w.heap.size,0,none⟩) 2 2,.int .i64 6,.slice (some ⟨w.heap.size + 1,0,none⟩) 1 1,.int .i64 1,.slice (some ⟨w.heap.size + 2,0,none⟩) 1 1,.int .i64 3] 66,.cells #[.int .i64 3,.int .u8 1,.slice (some ⟨w.heap.size + 3,0,none⟩) 3 3] 24,.cells #[.int .i64 0,.int .i64 1,.int .i64 2] 3] := ⟨_,rfl⟩
 have g0 : W0.heap[w.heap.size + 0]? = some (.cells #[.int .i64 0,.int .i64 1] 3 (0,0)) := by rw [hW0];exact qau _ w 0 rfl
 have g1 : W0.heap[w.heap.size + 1]? = some (.cells #[.int .i64 1] 3 (0,0)) := by rw [hW0];exact qau _ w 1 rfl
 have g2 : W0.heap[w.heap.size + 2]? = some (.cells #[.int .i64 2] 3 (0,0)) := by rw [hW0];exact qau _ w 2 rfl
 have g3 : W0.heap[w.heap.size + 3]? = some (.cells #[.slice (some ⟨w.heap.size,0,none⟩) 2 2,.int .i64 6,.slice (some ⟨w.heap.size + 1,0,none⟩) 1 1,.int .i64 1,.slice (some ⟨w.heap.size + 2,0,none⟩) 1 1,.int .i64 3] 66 (0,0)) := by rw [hW0];exact qau _ w 3 rfl
 have g4 : W0.heap[w.heap.size + 4]? = some (.cells #[.int .i64 3,.int .u8 1,.slice (some ⟨w.heap.size + 3,0,none⟩) 3 3] 24 (0,0)) := by rw [hW0];exact qau _ w 4 rfl
 have g5 : W0.heap[w.heap.size + 5]? = some (.cells #[.int .i64 0,.int .i64 1,.int .i64 2] 3 (0,0)) := by rw [hW0];exact qau _ w 5 rfl
 have r0 : RInts Any W0 (.slice (some ⟨w.heap.size,0,none⟩) 2 2) [0,1] := qb5 (xs := [0,1]) g0 (by decide) (by decide)
 have r1 : RInts Any W0 (.slice (some ⟨w.heap.size + 1,0,none⟩) 1 1) [1] := qb5 (xs := [1]) g1 (by decide) (by decide)
 have r2 : RInts Any W0 (.slice (some ⟨w.heap.size + 2,0,none⟩) 1 1) [2] := qb5 (xs := [2]) g2 (by decide) (by decide)
 have r5 : RInts Any W0 (.slice (some ⟨w.heap.size + 5,0,none⟩) 3 3) [0,1,2] := qb5 (xs := [0,1,2]) g5 (by decide) (by decide)
 rw [← hW0]
 have rp : RRows Any W0 (.slice (some ⟨w.heap.size + 3,0,none⟩) 3 3) exM.rows := RSl.laidN (cells := [.slice (some ⟨w.heap.size,0,none⟩) 2 2,.int .i64 6] ++ ([.slice (some ⟨w.heap.size + 1,0,none⟩) 1 1,.int .i64 1] ++ [.slice (some ⟨w.heap.size + 2,0,none⟩) 1 1,.int .i64 3])) (xs := ([⟨[0,1],6⟩] : List Row) ++ (([⟨[1],1⟩] : List Row) ++ ([⟨[2],3⟩] : List Row))) trivial g3 (Dec.append (mrowA (r := ⟨[0,1],6⟩) r0 (by decide)) (Dec.append (mrowA (r := ⟨[1],1⟩) r1 (by decide)) (mrowA (r := ⟨[2],3⟩) r2 (by decide)))) (by decide)
 exact ⟨⟨_,3,rfl,by decide,by decide,rp⟩,r5⟩
theorem litRnd2 {W : World} {g : Nat} {e : TypeId} {a0 an ad a1 a2 b0 bn bd b1 b2 : Value} {x y : Rnd} (h : W.heap[g]? = some (.cells #[a0,.bool x.lost.neg,an,ad,a1,a2,b0,.bool y.lost.neg,bn,bd,b1,b2] e (0,0)))
  (hx : dRnd Any W [a0,.bool x.lost.neg,an,ad,a1,a2] x) (hy : dRnd Any W [b0,.bool y.lost.neg,bn,bd,b1,b2] y) : RRnds Any W (.slice (some ⟨g,0,none⟩) 2 2) [x,y] :=
 RSl.laidN (cells := [a0,.bool x.lost.neg,an,ad,a1,a2] ++ [b0,.bool y.lost.neg,bn,bd,b1,b2]) (xs := [x] ++ [y]) trivial h (Dec.append (Dec.single rfl hx) (Dec.single rfl hy)) (by simp)
theorem below_eq {w w' : World} {e : Ending} {a : Ending} (h : e = a ∧ w' = w) : e = a ∧ Below w.heap.size w w' := ⟨h.1,h.2 ▸ Below.refl _ _⟩
set_option maxHeartbeats 8000000 in
set_option maxRecDepth 100000 in
theorem wakes19 (w : World) : Calls Tryz.prog 27 #[] w fun e w' => e = .returned (.bool true) ∧ Below w.heap.size w w' := by
 obtain ⟨hp,hl⟩ := wakm_lays w
 obtain ⟨W0,hW0⟩ : ∃ W0,W0 = lays w [.cells #[.int .i64 0,.int .i64 1] 3,.cells #[.int .i64 1] 3,.cells #[.int .i64 2] 3,.cells #[.slice (some ⟨w.heap.size,0,none⟩) 2 2,.int .i64 6,.slice (some ⟨w.heap.size + 1,0,none⟩) 1 1,.int .i64 1,.slice (some ⟨w.heap.size + 2,0,none⟩) 1 1,.int .i64 3] 66,.cells #[.int .i64 3,.int .u8 1,.slice (some ⟨w.heap.size + 3,0,none⟩) 3 3] 24,.cells #[.int .i64 0,.int .i64 1,.int .i64 2] 3] := ⟨_,rfl⟩
 have g4 : W0.heap[w.heap.size + 4]? = some (.cells #[.int .i64 3,.int .u8 1,.slice (some ⟨w.heap.size + 3,0,none⟩) 3 3] 24 (0,0)) := by rw [hW0];exact qau _ w 4 rfl
 have hbW : Below w.heap.size w W0 := by rw [hW0];exact lays_below _ w
 rw [← hW0] at hp hl
 have h1 := (meeCount Any Any _ _ exM 2 [0,1,2] W0 hp hl (by decide)).mono fun e w' hh => GivesE.open hh
 rw [exm1,exm4] at h1
 have h2 := fun (W : World) => (meeQuota 10 0 2 W).mono fun e w' h => below_eq h
 rw [exm5.1,exm5.2.1] at h2
 have h3 := fun (W : World) => meeKeep 1000000000 6000000000 3333333334 W (by decide) (by decide)
 rw [exm6.1,exm6.2.1] at h3
 have h4 := fun (W : World) (u v : Value) (hu : RInts Any W u [0,1]) (hv : RInts Any W v [555555556,1000000000,1000000000]) => meePartsC Any Any u v [0,1] [555555556,1000000000,1000000000] W hu hv (by decide)
 unfold GivesPM at h4
 rw [exm7.1,exm7.2.1,exm7.2.2] at h4
 have h5 := fun (W : World) (hW : Below W0.heap.size W0 W) (v : Value) (hv : RInts Any W v [0,1,2]) => (meeCount Any Any _ v exM 4 [0,1,2] W (hp.same (.of_below hW)) hv (by decide)).mono fun e w' hh => GivesE.open hh
 rw [exm2] at h5
 have h6 := fun (W : World) => (meeCount Any Any (.agg #[.int .i64 0,.int .u8 0,.slice none 0 0]) (.slice none 0 0) ⟨0,0,[]⟩ 1 [] W ⟨_,0,rfl,by decide,by decide,RSl.nil⟩ RSl.nil (by decide)).mono fun e w' hh => GivesE.open hh
 rw [exm3] at h6
 have h7 := fun (W : World) => (meeQuota 1 1000000001 1 W).mono fun e w' h => below_eq h
 rw [exm5.2.2.1,exm5.2.2.2] at h7
 have h8 := fun (W : World) => meeKeep 1 0 0 W (by decide) (by decide)
 rw [exm6.2.2.1,exm6.2.2.2] at h8
 have h9 := fun (W : World) (u v : Value) (hu : RInts Any W u [0,0]) (hv : RInts Any W v [1,1]) => meePartsC Any Any u v [0,0] [1,1] W hu hv (by decide)
 unfold GivesPM at h9
 rw [exm8.1,exm8.2.1] at h9
 have h10 := fun (W : World) (u v : Value) (hu : RInts Any W u [0]) (hv : RInts Any W v [1000000001]) => meePartsC Any Any u v [0] [1000000001] W hu hv (by decide)
 unfold GivesPM at h10
 rw [exm8.2.2.1,exm8.2.2.2] at h10
 rw [hW0] at h1
 have HP1 := Lib.hid h1;have HP2 := Lib.hid h2;have HP3 := Lib.hid h3;have HP4 := Lib.hid h4;have HP5 := Lib.hid h5;have HP6 := Lib.hid h6;have HP7 := Lib.hid h7;have HP8 := Lib.hid h8;have HP9 := Lib.hid h9;have HP10 := Lib.hid h10
 have HW0 := Lib.hid hW0;have G4 := Lib.hid g4;have HbW := Lib.hid hbW
 have st0 := Lib.hid True.intro
 clear h1 h2 h3 h4 h5 h6 h7 h8 h9 h10 hp hl hW0 g4 hbW
 go_enter Tryz.func27,Tryz.ntmps27
 go_upto_region 13 with (first
  | (have := st11;go_at_call 78;clear st11;refine (l19Round Any _ [3333333336,3666666664,3000000000] 0 (some ⟨w11.heap.size + 1,0,none⟩) 1 1 none 0 0 ((w11.alloc (.cells #[.int .i64 3333333336,.int .i64 3666666664,.int .i64 3000000000] 3)).alloc (.cells #[.int .i64 1] 3)) (qb5 (xs := [3333333336,3666666664,3000000000]) (qau [.cells #[.int .i64 3333333336,.int .i64 3666666664,.int .i64 3000000000] 3,.cells #[.int .i64 1] 3] w11 0 rfl) (by decide) (by decide)) (by decide) (by decide) (by decide)).mono ?_;rintro e w12 ⟨h12a,h12n,h12c,n12a,n12n,n12c,d12a,d12n,d12c,rfl,kh,kn,kd,hb⟩;have C12 := Lib.hid (bel_st (B := w11.heap.size) (w := w11) (by go_grown) hb (by go_size));replace q0 := bt q0 C12.out;replace hsz := q0.size;have HH12 := Lib.hid (RSl.mono (fun _ _ _ hd => dRt.mono (fun _ _ => trivial) hd) (fun _ _ => trivial) kh : RRts Any w12 _ _);have HN12 := Lib.hid (RU.mono (fun _ _ => trivial) kn : RU Any w12 _ _);have HD12 := Lib.hid (RU.mono (fun _ _ => trivial) kd : RU Any w12 _ _);clear kh kn kd;have HE12 := Lib.hid (qb5 (W := w12) (g := w11.heap.size + 1) (xs := [1]) (lay_at (w := w11) (os := [.cells #[.int .i64 3333333336,.int .i64 3666666664,.int .i64 3000000000] 3,.cells #[.int .i64 1] 3]) hb 1 rfl) (by decide) (by decide));clear hb;have st12 := Lib.hid True.intro;clear this)
  | (have := st10;go_at_call 78;clear st10;refine (l19Round Any _ [6000000000,1000000000,3000000000] 0 (some ⟨w10.heap.size + 2,0,none⟩) 1 1 none 0 0 (((w10.alloc (.cells #[.int .i64 0,.int .i64 1] 3)).alloc (.cells #[.int .i64 6000000000,.int .i64 1000000000,.int .i64 3000000000] 3)).alloc (.cells #[.int .i64 0] 3)) (qb5 (xs := [6000000000,1000000000,3000000000]) (qau [.cells #[.int .i64 0,.int .i64 1] 3,.cells #[.int .i64 6000000000,.int .i64 1000000000,.int .i64 3000000000] 3,.cells #[.int .i64 0] 3] w10 1 rfl) (by decide) (by decide)) (by decide) (by decide) (by decide)).mono ?_;rintro e w11 ⟨h11a,h11n,h11c,n11a,n11n,n11c,d11a,d11n,d11c,rfl,kh,kn,kd,hb⟩;have C11 := Lib.hid (bel_st (B := w10.heap.size) (w := w10) (by go_grown) hb (by go_size));replace q0 := bt q0 C11.out;replace hsz := q0.size;have HH11 := Lib.hid (RSl.mono (fun _ _ _ hd => dRt.mono (fun _ _ => trivial) hd) (fun _ _ => trivial) kh : RRts Any w11 _ _);have HN11 := Lib.hid (RU.mono (fun _ _ => trivial) kn : RU Any w11 _ _);have HD11 := Lib.hid (RU.mono (fun _ _ => trivial) kd : RU Any w11 _ _);clear kh kn kd;have HE11 := Lib.hid (qb5 (W := w11) (g := w10.heap.size + 2) (xs := [0]) (lay_at (w := w10) (os := [.cells #[.int .i64 0,.int .i64 1] 3,.cells #[.int .i64 6000000000,.int .i64 1000000000,.int .i64 3000000000] 3,.cells #[.int .i64 0] 3]) hb 2 rfl) (by decide) (by decide));have HX11 := Lib.hid (qb5 (W := w11) (g := w10.heap.size + 0) (xs := [0,1]) (lay_at (w := w10) (os := [.cells #[.int .i64 0,.int .i64 1] 3,.cells #[.int .i64 6000000000,.int .i64 1000000000,.int .i64 3000000000] 3,.cells #[.int .i64 0] 3]) hb 0 rfl) (by decide) (by decide));clear hb;have st11 := Lib.hid True.intro;clear this)
  | (have := st9;go_at_call 33;clear st9;refine (HP10.out ((w9.alloc (.cells #[.int .i64 0] 3)).alloc (.cells #[.int .i64 1000000001] 3)) (.slice (some ⟨w9.heap.size,0,none⟩) 1 1) (.slice (some ⟨w9.heap.size + 1,0,none⟩) 1 1) (qb5 (xs := [0]) (qau [.cells #[.int .i64 0] 3,.cells #[.int .i64 1000000001] 3] w9 0 rfl) (by decide) (by decide)) (qb5 (xs := [1000000001]) (qau [.cells #[.int .i64 0] 3,.cells #[.int .i64 1000000001] 3] w9 1 rfl) (by decide) (by decide))).mono ?_;rintro e w10 ⟨l10a,l10n,l10c,rfl,kl,hb⟩;have C10 := Lib.hid (bel_st (B := w9.heap.size) (w := w9) (by go_grown) hb (by go_size));replace q0 := bt q0 C10.out;replace hsz := q0.size;clear kl;clear hb;have st10 := Lib.hid True.intro;clear this)
  | (have := st8;go_at_call 33;clear st8;refine (HP9.out ((w8.alloc (.cells #[.int .i64 0,.int .i64 0] 3)).alloc (.cells #[.int .i64 1,.int .i64 1] 3)) (.slice (some ⟨w8.heap.size,0,none⟩) 2 2) (.slice (some ⟨w8.heap.size + 1,0,none⟩) 2 2) (qb5 (xs := [0,0]) (qau [.cells #[.int .i64 0,.int .i64 0] 3,.cells #[.int .i64 1,.int .i64 1] 3] w8 0 rfl) (by decide) (by decide)) (qb5 (xs := [1,1]) (qau [.cells #[.int .i64 0,.int .i64 0] 3,.cells #[.int .i64 1,.int .i64 1] 3] w8 1 rfl) (by decide) (by decide))).mono ?_;rintro e w9 ⟨l9a,l9n,l9c,rfl,kl,hb⟩;have C9 := Lib.hid (bel_st (B := w8.heap.size) (w := w8) (by go_grown) hb (by go_size));replace q0 := bt q0 C9.out;replace hsz := q0.size;clear kl;clear hb;have st9 := Lib.hid True.intro;clear this)
  | (have := st7;go_at_call 37;clear st7;refine (HP8.out _).mono ?_;rintro e w8 ⟨rfl,hb⟩;have C8 := Lib.hid (bel_st (B := w7.heap.size) (w := w7) (by go_grown) hb (by go_size));replace q0 := bt q0 C8.out;replace hsz := q0.size;clear hb;have st8 := Lib.hid True.intro;clear this)
  | (have := st6;go_at_call 35;clear st6;refine (HP7.out _).mono ?_;rintro e w7 ⟨rfl,hb⟩;have C7 := Lib.hid (bel_st (B := w6.heap.size) (w := w6) (by go_grown) hb (by go_size));replace q0 := bt q0 C7.out;replace hsz := q0.size;clear hb;have st7 := Lib.hid True.intro;clear this)
  | (have := st5;go_at_call 29;clear st5;refine (HP6.out _).mono ?_;rintro e w6 ⟨b61,m61,c61,b62,m62,c62,b63,m63,c63,rfl,kv,hb⟩;have C6 := Lib.hid (bel_st (B := w5.heap.size) (w := w5) (by go_grown) hb (by go_size));replace q0 := bt q0 C6.out;replace hsz := q0.size;clear kv;clear hb;have st6 := Lib.hid True.intro;clear this)
  | (have := st4;go_at_call 29;clear st4;refine (HP5.out (w4.alloc (.cells #[.int .i64 0,.int .i64 1,.int .i64 2] 3)) (by go_grown) (.slice (some ⟨w4.heap.size,0,none⟩) 3 3) (qb5 (xs := [0,1,2]) (qau [.cells #[.int .i64 0,.int .i64 1,.int .i64 2] 3] w4 0 rfl) (by decide) (by decide))).mono ?_;rintro e w5 ⟨b51,m51,c51,b52,m52,c52,b53,m53,c53,rfl,kv,hb⟩;have C5 := Lib.hid (bel_st (B := w4.heap.size) (w := w4) (by go_grown) hb (by go_size));replace q0 := bt q0 C5.out;replace hsz := q0.size;clear kv;clear pa4 pb4 pc4 pl4;clear hb;have st5 := Lib.hid True.intro;clear this)
  | (have := st3;go_at_call 33;clear st3;refine (HP4.out ((w3.alloc (.cells #[.int .i64 0,.int .i64 1] 3)).alloc (.cells #[.int .i64 555555556,.int .i64 1000000000,.int .i64 1000000000] 3)) (.slice (some ⟨w3.heap.size,0,none⟩) 2 2) (.slice (some ⟨w3.heap.size + 1,0,none⟩) 3 3) (qb5 (xs := [0,1]) (qau [.cells #[.int .i64 0,.int .i64 1] 3,.cells #[.int .i64 555555556,.int .i64 1000000000,.int .i64 1000000000] 3] w3 0 rfl) (by decide) (by decide)) (qb5 (xs := [555555556,1000000000,1000000000]) (qau [.cells #[.int .i64 0,.int .i64 1] 3,.cells #[.int .i64 555555556,.int .i64 1000000000,.int .i64 1000000000] 3] w3 1 rfl) (by decide) (by decide))).mono ?_;rintro e w4 ⟨l4a,l4n,l4c,rfl,kl,hb⟩;have C4 := Lib.hid (bel_st (B := w3.heap.size) (w := w3) (by go_grown) hb (by go_size));replace q0 := bt q0 C4.out;replace hsz := q0.size;have HL4 := Lib.hid (RInts.mono (fun _ _ => trivial) kl : RInts Any w4 _ _);clear kl;obtain ⟨pa4,pb4,pc4,pl4⟩ := box3 G4.out q0;clear hb;have st4 := Lib.hid True.intro;clear this)
  | (have := st2;go_at_call 37;clear st2;refine (HP3.out _).mono ?_;rintro e w3 ⟨rfl,hb⟩;have C3 := Lib.hid (bel_st (B := w2.heap.size) (w := w2) (by go_grown) hb (by go_size));replace q0 := bt q0 C3.out;replace hsz := q0.size;clear hb;have st3 := Lib.hid True.intro;clear this)
  | (have := st1;go_at_call 35;clear st1;refine (HP2.out _).mono ?_;rintro e w2 ⟨rfl,hb⟩;have C2 := Lib.hid (bel_st (B := w1.heap.size) (w := w1) (by go_grown) hb (by go_size));replace q0 := bt q0 C2.out;replace hsz := q0.size;have GB1 := Lib.hid (show w2.heap[w1.heap.size]? = some (.cells #[.slice b11 m11 c11,.slice b12 m12 c12,.slice b13 m13 c13] 32 (0,0)) from lay_at (w := w1) (os := [.cells #[.slice b11 m11 c11,.slice b12 m12 c12,.slice b13 m13 c13] 32]) hb 0 rfl);clear hb;have st2 := Lib.hid True.intro;clear this)
  | (have := st0;go_at_call 29;clear st0;refine (HP1.out).mono ?_;rintro e w1 ⟨b11,m11,c11,b12,m12,c12,b13,m13,c13,rfl,kv,hb⟩;rw [← HW0.out] at hb;have q0 := hb;have hsz := q0.size;have HV1 := Lib.hid (kv.mono (fun _ _ => trivial) : VOutc Any w1 (.agg #[.slice b11 m11 c11,.slice b12 m12 c12,.slice b13 m13 c13]) _);clear kv;clear hb;have st1 := Lib.hid True.intro;clear this))

 obtain ⟨X,hX⟩ : ∃ X,X = ((w12.alloc (.cells #[.slice h11a h11n h11c,.bool false,.slice n11a n11n n11c,.slice d11a d11n d11c,.slice (some ⟨w10.heap.size + 2,0,none⟩) 1 1,.slice none 0 0,.slice h12a h12n h12c,.bool false,.slice n12a n12n n12c,.slice d12a d12n d12c,.slice (some ⟨w11.heap.size + 1,0,none⟩) 1 1,.slice none 0 0] 58)).alloc (.cells #[.slice (some ⟨w10.heap.size,0,none⟩) 2 2,.slice (some ⟨w12.heap.size,0,none⟩) 2 2,.slice none 0 0] 32)) := ⟨_,rfl⟩
 have g0 : X.heap[w12.heap.size + 0]? = some (.cells #[.slice h11a h11n h11c,.bool false,.slice n11a n11n n11c,.slice d11a d11n d11c,.slice (some ⟨w10.heap.size + 2,0,none⟩) 1 1,.slice none 0 0,.slice h12a h12n h12c,.bool false,.slice n12a n12n n12c,.slice d12a d12n d12c,.slice (some ⟨w11.heap.size + 1,0,none⟩) 1 1,.slice none 0 0] 58 (0,0)) := by rw [hX];exact qau [.cells #[.slice h11a h11n h11c,.bool false,.slice n11a n11n n11c,.slice d11a d11n d11c,.slice (some ⟨w10.heap.size + 2,0,none⟩) 1 1,.slice none 0 0,.slice h12a h12n h12c,.bool false,.slice n12a n12n n12c,.slice d12a d12n d12c,.slice (some ⟨w11.heap.size + 1,0,none⟩) 1 1,.slice none 0 0] 58,.cells #[.slice (some ⟨w10.heap.size,0,none⟩) 2 2,.slice (some ⟨w12.heap.size,0,none⟩) 2 2,.slice none 0 0] 32] w12 0 rfl
 have g1 : X.heap[w12.heap.size + 1]? = some (.cells #[.slice (some ⟨w10.heap.size,0,none⟩) 2 2,.slice (some ⟨w12.heap.size,0,none⟩) 2 2,.slice none 0 0] 32 (0,0)) := by rw [hX];exact qau [.cells #[.slice h11a h11n h11c,.bool false,.slice n11a n11n n11c,.slice d11a d11n d11c,.slice (some ⟨w10.heap.size + 2,0,none⟩) 1 1,.slice none 0 0,.slice h12a h12n h12c,.bool false,.slice n12a n12n n12c,.slice d12a d12n d12c,.slice (some ⟨w11.heap.size + 1,0,none⟩) 1 1,.slice none 0 0] 58,.cells #[.slice (some ⟨w10.heap.size,0,none⟩) 2 2,.slice (some ⟨w12.heap.size,0,none⟩) 2 2,.slice none 0 0] 32] w12 1 rfl
 have hb12 : Below w12.heap.size w12 X := by rw [hX];exact lays_below [.cells #[.slice h11a h11n h11c,.bool false,.slice n11a n11n n11c,.slice d11a d11n d11c,.slice (some ⟨w10.heap.size + 2,0,none⟩) 1 1,.slice none 0 0,.slice h12a h12n h12c,.bool false,.slice n12a n12n n12c,.slice d12a d12n d12c,.slice (some ⟨w11.heap.size + 1,0,none⟩) 1 1,.slice none 0 0] 58,.cells #[.slice (some ⟨w10.heap.size,0,none⟩) 2 2,.slice (some ⟨w12.heap.size,0,none⟩) 2 2,.slice none 0 0] 32] w12
 rw [← hX]
 have hR := litRnd2 (x := ⟨[6000000000,1000000000,3000000000].map bill,bill 0,[0],[]⟩) (y := ⟨[3333333336,3666666664,3000000000].map bill,bill 0,[1],[]⟩) g0
  ⟨_,_,_,_,_,rfl,RRts.same (.of_below (bt C12.out hb12)) HH11.out,(HN11.out.same (.of_below C12.out)).same (.of_below hb12),(HD11.out.same (.of_below C12.out)).same (.of_below hb12),(HE11.out.same (.of_below C12.out)).same (.of_below hb12),RSl.nil⟩
  ⟨_,_,_,_,_,rfl,RRts.same (.of_below hb12) HH12.out,HN12.out.same (.of_below hb12),HD12.out.same (.of_below hb12),HE12.out.same (.of_below hb12),RSl.nil⟩
 have hV : VOutc Any X (.agg #[.slice (some ⟨w10.heap.size,0,none⟩) 2 2,.slice (some ⟨w12.heap.size,0,none⟩) 2 2,.slice none 0 0]) exMO := ⟨_,_,_,rfl,(HX11.out.same (.of_below C12.out)).same (.of_below hb12),hR,RSl.nil⟩
 have hV1 := HV1.out.same (w' := X) (.of_below (bt (bt C2.out (bt C3.out (bt C4.out (bt C5.out (bt C6.out (bt C7.out (bt C8.out (bt C9.out (bt C10.out (bt C11.out C12.out)))))))))) hb12))
 have hL4 := HL4.out.same (w' := X) (.of_below (bt (bt C5.out (bt C6.out (bt C7.out (bt C8.out (bt C9.out (bt C10.out (bt C11.out C12.out))))))) hb12))
 have hS := fun W (hW : Below X.heap.size X W) => r11Same_eq Any Any _ _ exMO W (hV1.same (.of_below hW)) (hV.same (.of_below hW))
 have hI := fun W v (hW : Below X.heap.size X W) (hv : RInts Any W v [555555556,444444444,0]) => ints08 Any Any _ v [555555556,444444444,0] [555555556,444444444,0] W (hL4.same (.of_below hW)) hv
 have hit : eqL eqInt [555555556,444444444,0] [555555556,444444444,0] = true := by decide
 rw [hit] at hI
 have HS := Lib.hid hS;have HI := Lib.hid hI
 have hQ := Lib.hid (bt q0 hb12)
 obtain ⟨x0,x1,x2,xl⟩ := box3 GB1.out (bt (bt C3.out (bt C4.out (bt C5.out (bt C6.out (bt C7.out (bt C8.out (bt C9.out (bt C10.out (bt C11.out C12.out))))))))) hb12)
 obtain ⟨y0,y1,y2,yl⟩ := box3 g1 (Below.refl _ X)
 clear hS hI hit hV hV1 hL4 hR g0 g1 hX hb12
 go_wp2_with (first
  | (go_at_call 22;refine (HS.out _ (Below.refl _ _)).mono ?_;rintro e w13 ⟨rfl,hb⟩;have B13 := Lib.hid hb;clear hb)
  | (go_at_call 24;refine (HI.out (w13.alloc (.cells #[.int .i64 555555556,.int .i64 444444444,.int .i64 0] 3)) _ (bt B13.out (qa1 _ _)) (qb5 (xs := [555555556,444444444,0]) (qa8 w13 _) (by decide) (by decide))).mono ?_;rintro e w14 ⟨rfl,hb⟩;have q1 := bt hQ.out (bt B13.out (bt (qa1 w13 (.cells #[.int .i64 555555556,.int .i64 444444444,.int .i64 0] 3)) hb))))
 go_ret
 exact ⟨rfl,bt HbW.out q1⟩
end

section
open Go Go.RowKit Go.Shelf Limb

theorem l19May (S T : Nat → Prop) (u v : Value) (p : Prof) (seats : Int) (lot : List Int) (w : World) (h : VProf S w u p) (hv : RInts T w v lot) :
  Calls Tryz.prog 25 #[u,.int .i64 seats,v] w fun e w' => e = .returned (.bool (mayG p seats lot)) ∧ Below w.heap.size w w' := by
 have h1 := h
 obtain ⟨a,m,c,rfl⟩ := h.agg
 obtain ⟨a2,m2,c2,rfl⟩ := RSl.slice hv
 obtain ⟨W0,hW0⟩ : ∃ W0,W0 = w.alloc (.cells #[.int .i64 p.cands,.int .u8 p.kind,.slice a m c] 24) := ⟨_,rfl⟩
 have hb0 : Below w.heap.size w W0 := by rw [hW0];exact qa1 w _
 have hM := r11May S T _ _ p 1 seats p.cands lot W0 (h1.same (.of_below hb0)) (hv.same (.of_below hb0))
 have hI : countI p 1 seats p.cands lot = rankI p seats lot := rfl
 rw [hI] at hM
 unfold mayG
 obtain ⟨cc,hcc⟩ : ∃ x,p.cands = x := ⟨_,rfl⟩
 obtain ⟨kk,hkk⟩ : ∃ x,p.kind = x := ⟨_,rfl⟩
 obtain ⟨I,hII⟩ : ∃ I,rankI p seats lot = I := ⟨_,rfl⟩
 rw [hII] at hM ⊢
 rw [hcc,hkk] at hM hW0
 rw [hcc,hkk]
 rw [hW0] at hM
 have HM := Lib.hid hM;have HW0 := Lib.hid hW0;have Hb0 := Lib.hid hb0
 clear hM hW0 hb0 h h1 hv hI hcc hkk hII
 go_enter Tryz.func25,Tryz.ntmps25
 go_wp2_with (go_at_call 64;refine HM.out.mono ?_;rintro e w1 ⟨rfl,hb⟩;rw [← HW0.out] at hb)
 go_ret
 exact ⟨rfl,bt Hb0.out hb⟩
theorem meeCountL (S T : Nat → Prop) (u v : Value) (p : Prof) (seats : Int) (lot : List Int) (w : World) (o : Outc) {n1 n2 n3 : Nat} (h : VProf S w u p) (hv : RInts T w v lot) (h0 : rankI p seats lot = 0) (hO : meeV p seats lot = o) (e1 : o.elected.length = n1) (e2 : o.rounds.length = n2) (e3 : o.ties.length = n3) :
  Calls Tryz.prog 29 #[u,.int .i64 seats,v] w fun e w' => ∃ b1 c1 b2 c2 b3 c3,e = .returned (.tuple #[.agg #[.slice b1 n1 c1,.slice b2 n2 c2,.slice b3 n3 c3],.int .i64 0]) ∧ VOutc Any w' (.agg #[.slice b1 n1 c1,.slice b2 n2 c2,.slice b3 n3 c3]) o ∧ Below w.heap.size w w' :=
 (meeCount_ok S T u v p seats lot w h hv h0).mono fun e w' hh => by
  obtain ⟨b1,m1,c1,b2,m2,c2,b3,m3,c3,rfl,k,hb⟩ := GivesE.open hh
  rw [hO] at k
  obtain ⟨q1,q2,q3⟩ := k.split
  obtain rfl : m1 = n1 := (RSl.len q1).trans e1
  obtain rfl : m2 = n2 := (RSl.len q2).trans e2
  obtain rfl : m3 = n3 := (RSl.len q3).trans e3
  exact ⟨_,_,_,_,_,_,rfl,VOutc.mono (fun _ _ => trivial) k,hb⟩
theorem meeF_end {p : Prof} {seats : Int} {lot : List Int} {C sn : Nat} (h : RankF p seats lot C sn) : (meeS p sn lot C).el.length = sn ∧ (meeS p sn lot C).rounds.length ≤ C ∧ (meeS p sn lot C).ties.length ≤ C ∧ SqJ C sn (meeS p sn lot C) := by
 have hC : p.cands.toNat = C := by rw [h.cands,Int.toNat_natCast]
 have hI := meeS_sq h C
 have hJ := meeS_J h C
 have hov := run_over (R := meeR C sn p.rows) (s0 := List.replicate C (1000000000 : Int)) h.lot h.s.2
 unfold meeS at hI hJ ⊢
 rw [hC] at hI hJ ⊢
 exact ⟨hov,by have := hI.rounds;omega,by have := hI.ties;omega,hJ⟩
theorem meeV_is  {p : Prof} {seats : Int} {lot : List Int} {C sn : Nat} (h : RankF p seats lot C sn) (h0 : rankI p seats lot = 0) : meeV p seats lot = ⟨(meeS p sn lot C).el,(meeS p sn lot C).rounds,(meeS p sn lot C).ties⟩ := by
 rw [meeV,if_pos h0,h.cands,h.seats];simp only [Int.toNat_natCast]
end
end Go.Proofs.YthcbkhfmdginiaaGreat
