/- Texts of one claim, put together: ProfF, ProfG, Ins, ProfI, ProfJ, ProfK, ProfL. -/
import Derived.Test.YthcbkhfmdginiaaGreatAGProf
import Derived.Test.YthcbkhfmdginiaaGreatAGPut
import Derived.Test.YthcbkhfmdginiaaGreatAGCan
import Derived.Lib.Overlaps
import Derived.Lib.AppendZerosOnto
import Derived.Laws.Externs
import Derived.Lib.Walk
import Derived.Shelf.RegionOpenPlain
import Derived.Handy

namespace Go.Proofs.YthcbkhfmdginiaaGreat
section
open Go Go.RowKit Go.Shelf

set_option maxHeartbeats 4000000 in
set_option maxRecDepth 100000 in
theorem profCheck (S : Nat → Prop) (v : Value) (p : Prof) (w : World) (h : VProf S w v p) :
  Calls Tryz.prog 70 #[v] w fun e w' => e = .returned (.int .i64 (chkP p)) ∧ Below w.heap.size w w' := by
 obtain ⟨a1, c1, rfl, hk1, hk2, hR⟩ := h
 by_cases hl : 64 < p.rows.length
 ·have hr : chkP p = 9 := by rw [chkP, if_pos hl]
  rw [hr]
  obtain ⟨pc, pk, rows⟩ := p
  simp only at hk1 hk2 hR hl ⊢
  clear hr hR
  go_enter Tryz.func70, Tryz.ntmps70
  go_wp2
  go_ret
  exact ⟨rfl, qa1 _ _⟩
 have hr : chkP p = if fineP p && newOk p.cands p.kind then (if 1000000 < sumR p.rows then 4 else 0) else 8 := by rw [chkP, if_neg hl]
 have hN := fun W => profNew p.cands p.kind W
 have hni : newI p.cands p.kind = if newOk p.cands p.kind then 0 else 2 := rfl
 have hsum : fineP p = true → 0 ≤ sumR p.rows := fun h => sumR_nonneg (fineP_iff.1 h).1
 obtain ⟨W0, hW0⟩ : ∃ W0, W0 = ((w.alloc (.cells #[.int .i64 p.cands, .int .u8 p.kind, .slice a1 p.rows.length c1] 24)).alloc (.cells #[.int .i64 0] 3)).alloc (.cells #[.bool true] 4) := ⟨_, rfl⟩
 have hb0 : Below w.heap.size w W0 := by rw [hW0]; exact ((qa1 w _).alloc (by simp) _).alloc (by simp; omega) _
 have hz0 : W0.heap.size = w.heap.size + 3 := by rw [hW0]; simp
 have g0 : W0.heap[w.heap.size]? = some (.cells #[.int .i64 p.cands, .int .u8 p.kind, .slice a1 p.rows.length c1] 24 (0, 0)) := by rw [hW0]; exact qb5 _ (qb5 _ (qa9 _ _))
 have g1 : W0.heap[w.heap.size + 1]? = some (.cells #[.int .i64 0] 3 (0, 0)) := by
  rw [hW0]
  have := qa9 (w.alloc (.cells #[.int .i64 p.cands, .int .u8 p.kind, .slice a1 p.rows.length c1] 24)) (.cells #[.int .i64 0] 3)
  rw [World.size_alloc] at this
  exact qb5 _ this
 have g2 : W0.heap[w.heap.size + 2]? = some (.cells #[.bool true] 4 (0, 0)) := by
  rw [hW0]
  have := qa9 ((w.alloc (.cells #[.int .i64 p.cands, .int .u8 p.kind, .slice a1 p.rows.length c1] 24)).alloc (.cells #[.int .i64 0] 3)) (.cells #[.bool true] 4)
  rwa [World.size_alloc, World.size_alloc] at this
 have hA := allP (Cut S w.heap.size) w.heap.size (w.heap.size + 2) (w.heap.size + 1) w.heap.size p a1 c1 W0 (hR.cut.same (.of_below hb0)) g2 g1 g0 (by omega) (by omega) ⟨hk1, hk2⟩ (fun b hb => hb.2) (by omega)
 have hAll : ∀ e w1, AllGives w.heap.size (w.heap.size + 1) w.heap.size p W0 e w1 → e = .returned (.bool (fineP p)) ∧ Below w.heap.size w w1 ∧ w.heap.size + 3 ≤ w1.heap.size ∧
   w1.heap[w.heap.size]? = some (.cells #[.int .i64 p.cands, .int .u8 p.kind, .slice a1 p.rows.length c1] 24 (0, 0)) ∧
   (fineP p = true → w1.heap[w.heap.size + 1]? = some (.cells #[.int .i64 (min (sumR p.rows) 1000001)] 3 (0, 0))) := fun e w1 ⟨h1, h2, h3, h4⟩ =>
  ⟨h1, hb0.trans h2, by have := h2.size; omega, h4.trans g0, h3⟩
 have hA2 := hA.mono hAll
 obtain ⟨fb, hfb⟩ : ∃ fb, fineP p = fb := ⟨_, rfl⟩
 obtain ⟨nb, hnb⟩ : ∃ nb, newOk p.cands p.kind = nb := ⟨_, rfl⟩
 obtain ⟨sm, hsm⟩ : ∃ sm, sumR p.rows = sm := ⟨_, rfl⟩
 rw [hfb] at hA2 hr hsum
 rw [hnb] at hr hni
 rw [hsm] at hA2 hr hsum
 rw [hni] at hN
 have hw : -9223372036854775808 ≤ p.cands ∧ p.cands ≤ 9223372036854775807 ∨ True := .inr trivial
 generalize (newP p.cands p.kind).cands = nc at hN
 generalize (newP p.cands p.kind).kind = nk at hN
 have HA := Lib.hid hA2; have HN := Lib.hid hN
 clear hA hA2 hN hAll g0 g1 g2 hw hb0 hz0 hni hR
 subst hW0
 cases fb
 ·have hr8 : chkP p = 8 := by rw [hr]; rfl
  rw [hr8]
  clear hr hr8 hsum
  cases nb
  all_goals
   go_enter Tryz.func70, Tryz.ntmps70
   go_wp2_with (first
    | (go_at_call 132; refine HA.out.mono ?_; rintro e w1 ⟨rfl, hb1, hz1, gp1, gs1⟩; obtain ⟨-, hc1, hf1⟩ := qa5 (Below.refl _ w1) (qa0 gp1) gp1; have Gs1 := Lib.hid gs1; clear gs1)
    | (go_at_call 136; refine (HN.out _).mono ?_; rintro e w2 ⟨rfl, hb2⟩; have hq2 := hb1.trans (hb2.mono hb1.size); have hz2 := hb2.size; have hy2 := hq2.size) )
   go_ret
   exact ⟨rfl, hq2.alloc hy2 _⟩
 cases nb
 ·have hr8 : chkP p = 8 := by rw [hr]; rfl
  rw [hr8]
  clear hr hr8 hsum
  go_enter Tryz.func70, Tryz.ntmps70
  go_wp2_with (first
   | (go_at_call 132; refine HA.out.mono ?_; rintro e w1 ⟨rfl, hb1, hz1, gp1, gs1⟩; obtain ⟨-, hc1, hf1⟩ := qa5 (Below.refl _ w1) (qa0 gp1) gp1; have Gs1 := Lib.hid gs1; clear gs1)
   | (go_at_call 136; refine (HN.out _).mono ?_; rintro e w2 ⟨rfl, hb2⟩; have hq2 := hb1.trans (hb2.mono hb1.size); have hz2 := hb2.size; have hy2 := hq2.size) )
  go_ret
  exact ⟨rfl, hq2.alloc hy2 _⟩
 have hs0 := hsum rfl
 have HA3 := Lib.hid (HA.out.mono fun e w1 h => (show e = .returned (.bool true) ∧ Below w.heap.size w w1 ∧ w.heap.size + 3 ≤ w1.heap.size ∧ w1.heap[w.heap.size]? = some (.cells #[.int .i64 p.cands, .int .u8 p.kind, .slice a1 p.rows.length c1] 24 (0, 0)) ∧
  w1.heap[w.heap.size + 1]? = some (.cells #[.int .i64 (min sm 1000001)] 3 (0, 0)) from ⟨h.1, h.2.1, h.2.2.1, h.2.2.2.1, h.2.2.2.2 rfl⟩))
 clear HA
 by_cases hs : 1000000 < sm
 ·have hr4 : chkP p = 4 := by rw [hr]; simp [hs]
  have hmn : 1000000 < min sm 1000001 := by omega
  rw [hr4]
  generalize min sm 1000001 = mn at *
  clear hr hr4 hsum
  go_enter Tryz.func70, Tryz.ntmps70
  go_wp2_with (first
   | (go_at_call 132; refine HA3.out.mono ?_; rintro e w1 ⟨rfl, hb1, hz1, gp1, gs1⟩; obtain ⟨-, hc1, hf1⟩ := qa5 (Below.refl _ w1) (qa0 gp1) gp1; have Gs1 := Lib.hid gs1; clear gs1)
   | (go_at_call 136; refine (HN.out _).mono ?_; rintro e w2 ⟨rfl, hb2⟩; have hq2 := hb1.trans (hb2.mono hb1.size); have hz2 := hb2.size; have hy2 := hq2.size; obtain ⟨gx2, hc2, hf2⟩ := qa5 hb2 (qa0 Gs1.out) Gs1.out; have hlt2 := qa0 gx2; have hc20 := hc2 0))
  go_ret
  exact ⟨rfl, hq2.alloc hy2 _⟩
 ·have hr0 : chkP p = 0 := by rw [hr]; simp [hs]
  have hmn : ¬ 1000000 < min sm 1000001 := by omega
  rw [hr0]
  generalize min sm 1000001 = mn at *
  clear hr hr0 hsum
  go_enter Tryz.func70, Tryz.ntmps70
  go_wp2_with (first
   | (go_at_call 132; refine HA3.out.mono ?_; rintro e w1 ⟨rfl, hb1, hz1, gp1, gs1⟩; obtain ⟨-, hc1, hf1⟩ := qa5 (Below.refl _ w1) (qa0 gp1) gp1; have Gs1 := Lib.hid gs1; clear gs1)
   | (go_at_call 136; refine (HN.out _).mono ?_; rintro e w2 ⟨rfl, hb2⟩; have hq2 := hb1.trans (hb2.mono hb1.size); have hz2 := hb2.size; have hy2 := hq2.size; obtain ⟨gx2, hc2, hf2⟩ := qa5 hb2 (qa0 Gs1.out) Gs1.out; have hlt2 := qa0 gx2; have hc20 := hc2 0))
  go_ret
  exact ⟨rfl, hq2.alloc hy2 _⟩
end

section
open Go Go.RowKit Go.Shelf

def InsGives (T : Nat → Prop) (base : Nat) (rv : Value) (rows : List Row) (w : World) (e : Ending) (w' : World) : Prop :=
 ∃ rv', e = .returned rv' ∧ OwnT T base w' rv' rows ∧ w.grownBy w' rv.ownBlock ∧ (rv'.ownBlock = rv.ownBlock ∨ ∃ g, rv'.ownBlock = some g ∧ w.heap.size ≤ g)
theorem ins_fin {T : Nat → Prop} {base : Nat} {w w' : World} {rv rv' : Value} {rows : List Row} (hg : w.grownBy w' rv.ownBlock) (hat : rv'.ownBlock = rv.ownBlock ∨ rv'.ownBlock = some w.heap.size) (ho : Own base 66 2 (dRow (RgT T w rv)) w' rv' rows) : InsGives T base rv rows w (.returned rv') w' := by
 refine ⟨rv', rfl, Own.dmono (fun _ _ hd => dRow.mono (fun b hb => ⟨hb.1, Nat.lt_of_lt_of_le hb.2.1 hg.size, ?_⟩) hd) ho, hg, ?_⟩
 ·rcases hat with e | e
  ·rw [e]; exact hb.2.2
  ·rw [e]; have := hb.2.1; intro h; injection h with h; omega
 ·rcases hat with e | e
  ·exact .inl e
  ·exact .inr ⟨_, e, Nat.le_refl _⟩
theorem dec_one {α : Type} {dec : World → List Value → α → Prop} (h1 : OneC dec) {w : World} {cells : List Value} {xs : List α} (h : Dec 2 dec w cells xs) : ∀ v ∈ cells, v.oneCell' = true := by
 intro v hv
 obtain ⟨j, hj, rfl⟩ := List.getElem_of_mem hv
 have hl := h.1
 refine h1 w _ _ (h.2 (j / 2) (by omega)) _ ?_
 rw [List.mem_take_iff_getElem]
 refine ⟨j % 2, by rw [List.length_drop]; omega, ?_⟩
 rw [List.getElem_drop]
 congr 1
 omega
theorem run_copy_lay (w : World) (dT sT ty elem : TypeId) (sz g o dLen dCap : Nat) (a : Addr) (sLen sCap : Nat) (cur : List Value) (t : TypeId) (cs : List Value) {P : Program}
  (hu : P.underlying dT = some (.slice elem)) (hs : (P.info? elem).map (·.size) = some sz)
  (hg : w.heap[g]? = some (.cells cur.toArray t (0, 0))) (k : Nat) (hk : Nat.min sLen dLen = k) (hn : cs.length = k * sz)
  (hsrc : ∀ j v, cs[j]? = some v → w.cell? (a.add j) = some v) (hfit : o + cs.length ≤ cur.length) (h1 : ∀ v ∈ cs, v.oneCell' = true) :
  (Builtin.copy_ #[dT, sT] ty #[.slice (some ⟨g, o, none⟩) dLen dCap, .slice (some a) sLen sCap]).run P w = .ok (goInt k) (w.setRow g (lay cur o cs).toArray) := by
 subst hk
 have := run_copy_rowN P w dT sT ty elem sz g o dLen dCap a sLen sCap cur.toArray t cs hu hs hg hn hsrc (by simpa using hfit) h1
 simpa [lay] using this
theorem Tryz.sizeRow : (Tryz.prog.info? 66).map (·.size) = some 2 := by kernel_rfl
set_option maxHeartbeats 4000000 in
set_option maxRecDepth 100000 in
/-- At the end. -/
theorem insEnd (T : Nat → Prop) (base : Nat) (rv : Value) (rows : List Row) (q : Nat) (c2 d2 : Value) (x : Row) (w : World) (ho : OwnT T base w rv rows) (hq : w.heap[q]? = some (.cells #[c2, d2] 66 (0, 0))) (hx : dRow (RgT T w rv) w [c2, d2] x) (hbase : base ≤ w.heap.size) (hl : rows.length ≤ 1000) :
  Calls Tryz.prog 197 #[rv, .int .i64 rows.length, .slice (some ⟨q, 0, none⟩) 1 1] w (InsGives T base rv (rows ++ [x]) w) := by
 have hO : Own base 66 2 (dRow (RgT T w rv)) w rv rows := ho
 have hu : RSl (From 0) 2 (dRow (RgT T w rv)) w (.slice (some ⟨q, 0, none⟩) 1 1) [x] := RSl.built (lo := 0) (Nat.zero_le _) hq rfl hx
 obtain ⟨a, cap, rfl⟩ := ho.shape
 have HO := Lib.hid hO; have HU := Lib.hid hu
 have hcap : a = none ∨ ∃ g, a = some ⟨g, 0, none⟩ := by
  obtain ⟨cells, ho', hd⟩ := ho
  rcases ho'.2 with ⟨h1, h0⟩ | ⟨g', cap', cur, h1, -⟩
  ·simp only [Value.slice.injEq] at h1; exact .inl h1.1
  ·simp only [Value.slice.injEq] at h1; exact .inr ⟨g', h1.1⟩
 have hcl : rows.length ≤ cap ∧ cap ≤ 9223372036854775807 := by
  obtain ⟨cells, ho', hd⟩ := ho
  rcases ho'.2 with ⟨h1, h0⟩ | ⟨g', cap', cur, h1, h2, h3, h4, h5, -⟩
  ·simp only [Value.slice.injEq] at h1; omega
  ·simp only [Value.slice.injEq] at h1; simp only [maxLen] at h5; omega
 obtain ⟨hcl1, hcl2⟩ := hcl
 clear hO hu ho hx hq
 rcases hcap with rfl | ⟨g, rfl⟩
 all_goals
  go_enter Tryz.func197, Tryz.ntmps197
  go_wp2_with (at_builtin; go_must (refine wpList_app _ Tryz.infoRow rfl rfl Tryz.underlying22 ⟨rfl, by omega, by omega⟩ (dRow.one _) (dRow.stable (RgT T w _)) base HO.out rfl HU.out rfl (by simp; omega) hbase ?_); intro a' c' w' hg hat ho2; have Hg := Lib.hid hg; have Hat := Lib.hid hat; have Ho2 := Lib.hid ho2; clear hg hat ho2)
  all_goals
   go_ret
   have k2 := Ho2.out (.of_grown Hg.out (fun b hb => hb.2.2))
   have k1 := Hat.out
   rw [show (rows ++ [x]).length = rows.length + 1 by simp] at k1 k2
   exact ins_fin (rv' := .slice a' (rows.length + 1) c') Hg.out k1 k2
set_option maxHeartbeats 4000000 in
set_option maxRecDepth 100000 in
/-- There is room: in place. -/
theorem insShift (T : Nat → Prop) (base g cap i : Nat) (rows : List Row) (q : Nat) (c2 d2 : Value) (x : Row) (w : World) (ho : OwnT T base w (.slice (some ⟨g, 0, none⟩) rows.length cap) rows) (hi : i < rows.length) (hroom : rows.length + 1 ≤ cap) (hq : w.heap[q]? = some (.cells #[c2, d2] 66 (0, 0))) (hqg : q ≠ g)
  (hx : dRow (RgT T w (.slice (some ⟨g, 0, none⟩) rows.length cap)) w [c2, d2] x) (hl : rows.length ≤ 1000) :
  Calls Tryz.prog 197 #[.slice (some ⟨g, 0, none⟩) rows.length cap, .int .i64 i, .slice (some ⟨q, 0, none⟩) 1 1] w (InsGives T base (.slice (some ⟨g, 0, none⟩) rows.length cap) (rows.take i ++ x :: rows.drop i) w) := by
 obtain ⟨cur, L, hg, hbg, hn, hm, hs, hL, hd, -⟩ := ho.cells
 have hLl := hd.1
 have hcg : ∀ j v, L[j]? = some v → w.cell? ⟨g, j, none⟩ = some v := fun j v hj => by
  rw [cell_of_row w g j cur.toArray 66 (0, 0) hg]
  have hlt := (List.getElem?_eq_some_iff.1 hj).1
  rw [← hL, List.getElem?_take_of_lt (by omega)] at hj
  simpa using hj
 have h1L := dec_one (dRow.one _) hd
 have h1x : ∀ v ∈ [c2, d2], v.oneCell' = true := dRow.one _ _ _ _ hx
 have hdl : (L.drop (i * 2)).length = (rows.length - i) * 2 := by rw [List.length_drop, hLl]; omega
 obtain ⟨W1, hW1⟩ : ∃ W1, W1 = w.drew.setRow g (lay cur ((i + 1) * 2) (L.drop (i * 2))).toArray := ⟨_, rfl⟩
 obtain ⟨W2, hW2⟩ : ∃ W2, W2 = W1.setRow g (lay (lay cur ((i + 1) * 2) (L.drop (i * 2))) (i * 2) [c2, d2]).toArray := ⟨_, rfl⟩
 have hcp1 : ∀ ty dl dc sl sc, dl = rows.length - i → rows.length - i ≤ sl → (Builtin.copy_ #[22, 22] ty #[.slice (some ⟨g, (i + 1) * 2, none⟩) dl dc, .slice (some ⟨g, i * 2, none⟩) sl sc]).run Tryz.prog w.drew = .ok (goInt ((rows.length - i : Nat) : Int)) W1 := fun ty dl dc sl sc e1 e2 => by
  rw [hW1]
  exact run_copy_lay w.drew _ _ ty _ 2 g ((i + 1) * 2) dl dc ⟨g, i * 2, none⟩ sl sc cur 66 (L.drop (i * 2)) Tryz.underlying22 Tryz.sizeRow hg (rows.length - i) (by simp only [Nat.min_def]; split <;> omega) hdl (fun j v hj => by
   rw [Addr.add_lit]; rw [List.getElem?_drop] at hj; exact hcg _ v hj) (by rw [hdl]; omega) (fun v hv => h1L v (List.mem_of_mem_drop hv))
 have hgW1 : W1.heap[g]? = some (.cells (lay cur ((i + 1) * 2) (L.drop (i * 2))).toArray 66 (0, 0)) := by rw [hW1]; exact setRow_heap _ g _ _ _ _ hg
 have hl1 : (lay cur ((i + 1) * 2) (L.drop (i * 2))).length = cur.length := lay_length (by rw [hdl]; omega)
 have hqW1 : W1.heap[q]? = some (.cells #[c2, d2] 66 (0, 0)) := by rw [hW1]; exact (setRow_other _ g q _ hqg).trans hq
 have hcp2 : ∀ ty dl dc, 1 ≤ dl → (Builtin.copy_ #[22, 22] ty #[.slice (some ⟨g, i * 2, none⟩) dl dc, .slice (some ⟨q, 0, none⟩) 1 1]).run Tryz.prog W1 = .ok (goInt 1) W2 := fun ty dl dc e1 => by
  rw [hW2]
  refine run_copy_lay W1 _ _ ty _ 2 g (i * 2) dl dc ⟨q, 0, none⟩ 1 1 _ 66 [c2, d2] Tryz.underlying22 Tryz.sizeRow hgW1 1 (by simp only [Nat.min_def]; split <;> omega) rfl (fun j v hj => ?_) (by rw [hl1]; simp; omega) h1x
  rw [Addr.add_lit, Nat.zero_add, cell_of_row W1 q j _ _ _ hqW1]
  simpa using hj
 have hov : ∀ lb cb, (callFunc 232 #[.slice (some ⟨q, 0, none⟩) 1 1, .slice (some ⟨g, (i + 1) * 2, none⟩) lb cb]).run Tryz.prog w = .ok (.value (.bool false)) w := fun lb cb => by
  rw [run_callFunc_extern Tryz.func232 (by kernel_rfl) (by kernel_rfl) (by kernel_rfl) (e := Extern.SlicesOverlaps.overlaps #[22, 22] #[4]) (by kernel_rfl),
   Lib.run_overlaps_apart w 22 4 66 Tryz.underlying22 2 Tryz.sizeOf66 ⟨q, 0, none⟩ ⟨g, (i + 1) * 2, none⟩ 1 1 lb cb hqg 66 66 2 (cap * 2) ?_ ?_ (by omega) ?_ ?_]
  ·rfl
  ·simp [World.shape?, hq]
  ·simp [World.shape?, hg, hs]
  ·simp [World.frozen?, hq]
  ·simp [World.frozen?, hq]
 have hfin : InsGives T base (.slice (some ⟨g, 0, none⟩) rows.length cap) (rows.take i ++ x :: rows.drop i) w (.returned (.slice (some ⟨g, 0, none⟩) (rows.length + 1) cap)) W2 := by
  have hoth : ∀ b, b ≠ g → W2.heap[b]? = w.heap[b]? := fun b hb => by rw [hW2]; exact (setRow_other _ g b _ hb).trans (by rw [hW1]; exact setRow_other _ g b _ hb)
  have hsz : W2.heap.size = w.heap.size := by rw [hW2, hW1]; simp [World.setRow]
  have hgr : w.grownBy W2 (some g) := ⟨by rw [hW2, hW1]; rfl, by rw [hW2, hW1]; rfl, by rw [hW2, hW1]; rfl, by omega, fun b _ hb => hoth b (fun e => hb (by rw [e]))⟩
  have hsm : Same (RgT T w (.slice (some ⟨g, 0, none⟩) rows.length cap)) w W2 := fun b _ hb => hoth b (fun e => hb.2.2 (by rw [e]; rfl))
  have hln : (rows.take i ++ x :: rows.drop i).length = rows.length + 1 := by simp; omega
  refine ins_fin hgr (.inl rfl) ?_
  have hgW2 : W2.heap[g]? = some (.cells (lay (lay cur ((i + 1) * 2) (L.drop (i * 2))) (i * 2) [c2, d2]).toArray 66 (0, 0)) := by rw [hW2]; exact setRow_heap _ g _ _ _ _ hgW1
  refine ⟨L.take (i * 2) ++ ([c2, d2] ++ L.drop (i * 2)), ⟨by rw [hln]; simp [hLl]; omega, .inr ⟨g, cap, (lay (lay cur ((i + 1) * 2) (L.drop (i * 2))) (i * 2) [c2, d2]).toArray, by rw [hln], hbg, hgW2, by rw [hln]; exact hroom, hm, ?_, ?_⟩⟩, ?_⟩
  ·simp only [List.size_toArray]; rw [lay_length (by rw [hl1]; simp; omega), hl1]; exact hs
  ·rw [hln]
   exact ins_cells c2 d2 (by omega) hL (by omega)
  ·exact Dec.append ((hd.take (by omega)).dmono fun cs y h => dRow.stable _ _ _ _ _ hsm h) (Dec.append (xs := [x]) (Dec.single rfl (dRow.stable _ _ _ _ _ hsm hx)) ((hd.drop (by omega)).dmono fun cs y h => dRow.stable _ _ _ _ _ hsm h))
 have HF := Lib.hid hfin; have Hov := Lib.hid hov; have Hcp1 := Lib.hid hcp1; have Hcp2 := Lib.hid hcp2
 have hlt63 : cap ≤ 9223372036854775807 := by simp only [maxLen] at hm; omega
 clear hfin hcp1 hcp2 hgW1 hqW1 hW1 hW2 hcg h1L h1x hd hL hg hq hx ho hs hm hLl hdl hl1 hov
 have hov := Hov.out
 have hw1 : IntKind.i64.wrap ((i : Int) + 1) = (i : Int) + 1 := by rw [IntKind.wrap_i64]; omega
 have hb1 : (0 : Int) ≤ (i : Int) + 1 := by omega
 have hb3 : (i : Int) + 1 ≤ (rows.length : Int) + 1 := by omega
 have htn : ((i : Int) + 1).toNat = i + 1 := by omega
 have hb2 : ¬ (cap = i + 1) := by omega
 have hb4 : ¬ (cap = i) := by omega
 have hb5 : (i : Int) ≤ (rows.length : Int) + 1 := by omega
 go_enter Tryz.func197, Tryz.ntmps197
 have hcpA := Hcp1.out 3 (rows.length - i) (cap - (i + 1)) (rows.length + 1 - i) (cap - i) rfl (by omega)
 go_wp2
 go_region_law (fail)
 all_goals
  clear hcpA
  have hcpB := Hcp2.out 3 (rows.length + 1 - i) (cap - i) (by omega)
  go_wp2
  go_ret
  exact HF.out
set_option maxHeartbeats 4000000 in
set_option maxRecDepth 100000 in
/-- There is no room: a new row. -/
theorem insGrow (T : Nat → Prop) (base g cap i : Nat) (rows : List Row) (q : Nat) (c2 d2 : Value) (x : Row) (w : World) (ho : OwnT T base w (.slice (some ⟨g, 0, none⟩) rows.length cap) rows) (hi : i < rows.length) (hroom : cap < rows.length + 1) (hq : w.heap[q]? = some (.cells #[c2, d2] 66 (0, 0)))
  (hx : dRow (RgT T w (.slice (some ⟨g, 0, none⟩) rows.length cap)) w [c2, d2] x) (hbase : base ≤ w.heap.size) (hl : rows.length ≤ 1000) :
  Calls Tryz.prog 197 #[.slice (some ⟨g, 0, none⟩) rows.length cap, .int .i64 i, .slice (some ⟨q, 0, none⟩) 1 1] w (InsGives T base (.slice (some ⟨g, 0, none⟩) rows.length cap) (rows.take i ++ x :: rows.drop i) w) := by
 obtain ⟨cur, L, hg, hbg, hn, hm, hs, hL, hd, -⟩ := ho.cells
 have hLl := hd.1
 have hgw := qa0 hg
 have hqw := qa0 hq
 have hcg : ∀ j v, L[j]? = some v → w.cell? ⟨g, j, none⟩ = some v := fun j v hj => by
  rw [cell_of_row w g j cur.toArray 66 (0, 0) hg]
  have hlt := (List.getElem?_eq_some_iff.1 hj).1
  rw [← hL, List.getElem?_take_of_lt (by omega)] at hj
  simpa using hj
 have h1L := dec_one (dRow.one _) hd
 have h1x : ∀ v ∈ [c2, d2], v.oneCell' = true := dRow.one _ _ _ _ hx
 have hdl : (L.drop (i * 2)).length = (rows.length - i) * 2 := by rw [List.length_drop, hLl]; omega
 obtain ⟨i0, hi0, hz0, hzs, hzb⟩ := info_parts Tryz.infoRow
 obtain ⟨G, hG⟩ : ∃ G, G = grownCap w (rows.length + 1) cap 66 := ⟨_, rfl⟩
 have hG1 : rows.length + 1 ≤ G := by rw [hG]; exact grownCap_ge w _ _ _
 have hG2 : G ≤ maxLen := by rw [hG]; exact grownCap_le_maxLen w _ _ _ (by simp only [maxLen]; omega)
 obtain ⟨ROW, hROW⟩ : ∃ ROW : List Value, ROW = ((L.take (i * 2)).toArray ++ Builtin.zeroCells (Value.agg #[.slice none 0 0, .int .i64 0]).cells (rows.length + 1 - i) ++ Builtin.zeroCells (Value.agg #[.slice none 0 0, .int .i64 0]).cells (G - (rows.length + 1))).toList := ⟨_, rfl⟩
 have hzc : ∀ m, (Builtin.zeroCells (Value.agg #[.slice none 0 0, .int .i64 0]).cells m).size = m * 2 := fun m => by simp [Builtin.zeroCells, Value.cells]
 have hRl : ROW.length = G * 2 := by rw [hROW]; simp only [Array.length_toList, Array.size_append, hzc, List.size_toArray, List.length_take, hLl]; omega
 have hRt : ROW.take (i * 2) = L.take (i * 2) := by
  rw [hROW]
  simp only [Array.toList_append, List.append_assoc]
  rw [List.take_append_of_le_length (by simp only [List.length_take, hLl]; omega), List.take_of_length_le (by simp only [List.length_take, hLl]; omega)]
 obtain ⟨W1, hW1⟩ : ∃ W1, W1 = w.drew.alloc (.cells ROW.toArray 66) := ⟨_, rfl⟩
 obtain ⟨W2, hW2⟩ : ∃ W2, W2 = W1.setRow w.heap.size (lay ROW (i * 2) [c2, d2]).toArray := ⟨_, rfl⟩
 obtain ⟨W3, hW3⟩ : ∃ W3, W3 = W2.drew.setRow w.heap.size (lay (lay ROW (i * 2) [c2, d2]) ((i + 1) * 2) (L.drop (i * 2))).toArray := ⟨_, rfl⟩
 have hkk : (rows.length : Int) + 1 - (i : Int) = ((rows.length + 1 - i : Nat) : Int) := by omega
 have hik : i + (rows.length + 1 - i) = rows.length + 1 := by omega
 have hrz : ∀ ty, (Builtin.append_ #[22, 3] ty #[.slice (some ⟨g, 0, none⟩) i cap, .int .i64 ((rows.length : Int) + 1 - (i : Int))]).run Tryz.prog w = .ok (.slice (some ⟨w.heap.size, 0, none⟩) (rows.length + 1) G) W1 := fun ty => by
  have h := Lib.run_append_grow_zeros w 22 3 ty 66 i0 _ .i64 .i64 Tryz.underlying22 Tryz.underlying3 hi0 hz0 (some ⟨g, 0, none⟩) i cap (L.take (i * 2))
   (run_firstCells_some w.drew _ i ⟨g, 0, none⟩ i cap (L.take (i * 2)) (by rw [hzs, List.length_take, hLl]; omega) (fun j v hj => by
    rw [Addr.add_lit, Nat.zero_add]
    rw [List.getElem?_take] at hj
    split at hj
    ·exact hcg j v hj
    ·cases hj))
   (rows.length + 1 - i) (by omega) (by omega) (by omega) (by omega) (by rw [hzb]; omega) (by rw [hzb, hik]; exact growslice_fits hroom (by omega))
  rw [hik, ← hG] at h
  rw [hkk, h, hW1, hROW]
 have hgW1 : W1.heap[w.heap.size]? = some (.cells ROW.toArray 66 (0, 0)) := by rw [hW1]; exact qa9 w.drew _
 have hoW1 : ∀ b, b < w.heap.size → W1.heap[b]? = w.heap[b]? := fun b hb => by rw [hW1]; exact Below.heap_alloc w.drew _ b hb
 have hl1 : (lay ROW (i * 2) [c2, d2]).length = G * 2 := by rw [lay_length (by rw [hRl]; simp; omega), hRl]
 have hcpB : ∀ ty dl dc, 1 ≤ dl → (Builtin.copy_ #[22, 22] ty #[.slice (some ⟨w.heap.size, i * 2, none⟩) dl dc, .slice (some ⟨q, 0, none⟩) 1 1]).run Tryz.prog W1 = .ok (goInt 1) W2 := fun ty dl dc e1 => by
  rw [hW2]
  refine run_copy_lay W1 _ _ ty _ 2 w.heap.size (i * 2) dl dc ⟨q, 0, none⟩ 1 1 _ 66 [c2, d2] Tryz.underlying22 Tryz.sizeRow hgW1 1 (by simp only [Nat.min_def]; split <;> omega) rfl (fun j v hj => ?_) (by rw [hRl]; simp; omega) h1x
  rw [Addr.add_lit, Nat.zero_add, cell_of_row W1 q j _ _ _ ((hoW1 q hqw).trans hq)]
  simpa using hj
 have hgW2 : W2.heap[w.heap.size]? = some (.cells (lay ROW (i * 2) [c2, d2]).toArray 66 (0, 0)) := by rw [hW2]; exact setRow_heap _ _ _ _ _ _ hgW1
 have hoW2 : ∀ b, b < w.heap.size → W2.heap[b]? = w.heap[b]? := fun b hb => by rw [hW2]; exact (setRow_other _ _ b _ (by omega)).trans (hoW1 b hb)
 have hcpC : ∀ ty dl dc sl sc, dl = rows.length - i → rows.length - i ≤ sl → (Builtin.copy_ #[22, 22] ty #[.slice (some ⟨w.heap.size, (i + 1) * 2, none⟩) dl dc, .slice (some ⟨g, i * 2, none⟩) sl sc]).run Tryz.prog W2.drew = .ok (goInt ((rows.length - i : Nat) : Int)) W3 := fun ty dl dc sl sc e1 e2 => by
  rw [hW3]
  exact run_copy_lay W2.drew _ _ ty _ 2 w.heap.size ((i + 1) * 2) dl dc ⟨g, i * 2, none⟩ sl sc _ 66 (L.drop (i * 2)) Tryz.underlying22 Tryz.sizeRow hgW2 (rows.length - i) (by simp only [Nat.min_def]; split <;> omega) hdl (fun j v hj => by
   rw [Addr.add_lit]; rw [List.getElem?_drop] at hj
   have h1 := hcg _ v hj
   rw [cell_of_row w g _ _ _ _ hg] at h1
   have := cell_of_row W2.drew g (i * 2 + j) _ _ _ ((hoW2 g hgw).trans hg)
   exact this.trans h1) (by rw [hl1, hdl]; omega) (fun v hv => h1L v (List.mem_of_mem_drop hv))
 have hfin : InsGives T base (.slice (some ⟨g, 0, none⟩) rows.length cap) (rows.take i ++ x :: rows.drop i) w (.returned (.slice (some ⟨w.heap.size, 0, none⟩) (rows.length + 1) G)) W3 := by
  have hgW3 : W3.heap[w.heap.size]? = some (.cells (lay (lay ROW (i * 2) [c2, d2]) ((i + 1) * 2) (L.drop (i * 2))).toArray 66 (0, 0)) := by rw [hW3]; exact setRow_heap _ _ _ _ _ _ hgW2
  have hoth : ∀ b, b < w.heap.size → W3.heap[b]? = w.heap[b]? := fun b hb => by rw [hW3]; exact (setRow_other _ _ b _ (by omega)).trans (hoW2 b hb)
  have hgr : w.grownBy W3 (some g) := ⟨by rw [hW3, hW2, hW1]; rfl, by rw [hW3, hW2, hW1]; rfl, by rw [hW3, hW2, hW1]; rfl, Nat.le_of_lt (qa0 hgW3), fun b hb _ => hoth b hb⟩
  have hsm : Same (RgT T w (.slice (some ⟨g, 0, none⟩) rows.length cap)) w W3 := fun b hb _ => hoth b hb
  have hln : (rows.take i ++ x :: rows.drop i).length = rows.length + 1 := by simp; omega
  refine ins_fin hgr (.inr rfl) ?_
  refine ⟨ROW.take (i * 2) ++ ([c2, d2] ++ L.drop (i * 2)), ⟨by rw [hln, hRt]; simp [hLl]; omega, .inr ⟨w.heap.size, G, (lay (lay ROW (i * 2) [c2, d2]) ((i + 1) * 2) (L.drop (i * 2))).toArray, by rw [hln], hbase, hgW3, by rw [hln]; exact hG1, hG2, ?_, ?_⟩⟩, ?_⟩
  ·simp only [List.size_toArray]; rw [lay_length (by rw [hl1, hdl]; omega), hl1]
  ·rw [hln]
   exact new_cells c2 d2 (by omega) hdl (by omega)
  ·rw [hRt]
   exact Dec.append ((hd.take (by omega)).dmono fun cs y h => dRow.stable _ _ _ _ _ hsm h) (Dec.append (xs := [x]) (Dec.single rfl (dRow.stable _ _ _ _ _ hsm hx)) ((hd.drop (by omega)).dmono fun cs y h => dRow.stable _ _ _ _ _ hsm h))
 have HF := Lib.hid hfin
 have hG63 : G ≤ 9223372036854775807 := by simp only [maxLen] at hG2; omega
 have hlt63 : cap ≤ 9223372036854775807 := by omega
 have hcpB2 := hcpB 3 (rows.length + 1 - i) (G - i) (by omega)
 have hcpC2 := hcpC 3 (rows.length - i) (G - (i + 1)) (rows.length - i) (cap - i) rfl (by omega)
 have HRZ := Lib.hid hrz
 clear hfin hcpB hcpC hrz hgW1 hgW2 hoW1 hoW2 hW1 hW2 hW3 hcg h1L h1x hd hL hg hq hx ho hs hLl hdl hl1 hRl hRt hROW hzc hkk hik hi0 hz0 hzs hzb hG hG2
 have hw1 : IntKind.i64.wrap ((i : Int) + 1) = (i : Int) + 1 := by rw [IntKind.wrap_i64]; omega
 have hw2 : IntKind.i64.wrap ((rows.length : Int) + 1 - (i : Int)) = (rows.length : Int) + 1 - (i : Int) := by rw [IntKind.wrap_i64]; omega
 have hb1 : (0 : Int) ≤ (i : Int) + 1 := by omega
 have hb3 : (i : Int) + 1 ≤ (rows.length : Int) + 1 := by omega
 have htn : ((i : Int) + 1).toNat = i + 1 := by omega
 have hb2 : ¬ (cap = i + 1) ∨ True := .inr trivial
 have hb4 : ¬ (cap = i) := by omega
 have hb5 : (i : Int) ≤ (rows.length : Int) + 1 := by omega
 have hb6 : ¬ (G = i) := by omega
 have hb7 : ¬ (G = i + 1) := by omega
 have hb8 : (i : Int) ≤ (cap : Int) := by omega
 have hb9 : (i : Int) ≤ (rows.length : Int) := by omega
 go_enter Tryz.func197, Tryz.ntmps197
 go_wp2_with (at_builtin; refine Lib.wpList_append_run _ rfl _ _ _ _ rfl _ _ rfl rfl _ _ (HRZ.out _) ?_)
 go_region_law (fail)
 all_goals
  go_wp2
  go_ret
  exact HF.out
end

section
open Go Go.RowKit Go.Shelf

theorem insRows (T : Nat → Prop) (base : Nat) (rv : Value) (rows : List Row) (i q : Nat) (c2 d2 : Value) (x : Row) (w : World) (ho : OwnT T base w rv rows) (hi : i ≤ rows.length) (hq : w.heap[q]? = some (.cells #[c2, d2] 66 (0, 0))) (hqr : some q ≠ rv.ownBlock) (hx : dRow (RgT T w rv) w [c2, d2] x) (hbase : base ≤ w.heap.size) (hl : rows.length ≤ 1000) :
  Calls Tryz.prog 197 #[rv, .int .i64 i, .slice (some ⟨q, 0, none⟩) 1 1] w (InsGives T base rv (rows.take i ++ x :: rows.drop i) w) := by
 by_cases he : i = rows.length
 ·subst he
  rw [List.take_length, List.drop_length]
  exact insEnd T base rv rows q c2 d2 x w ho hq hx hbase hl
 ·have hlt : i < rows.length := by omega
  obtain ⟨a, cap, rfl⟩ := ho.shape
  obtain ⟨g, -, -, rfl, -⟩ := Own.at2 ho hlt
  by_cases hr : rows.length + 1 ≤ cap
  ·exact insShift T base g cap i rows q c2 d2 x w ho hlt hr hq (fun e => hqr (by rw [e]; rfl)) hx hl
  ·exact insGrow T base g cap i rows q c2 d2 x w ho hlt (by omega) hq hx hbase hl
def PutPGives (T : Nat → Prop) (base g : Nat) (c k : Int) (rows : List Row) (w : World) (e : Ending) (w' : World) : Prop :=
 (∃ u, e = .returned u) ∧ ∃ a n cap, w'.heap[g]? = some (.cells #[.int .i64 c, .int .u8 k, .slice a n cap] 24 (0, 0)) ∧ OwnT T base w' (.slice a n cap) rows ∧ PutFrame g base w w'
theorem putFrame_below {g base : Nat} {w w' : World} (hb : Below w.heap.size w w') (hbw : base ≤ w.heap.size) : PutFrame g base w w' := ⟨hb.os, hb.tape, hb.output, hb.size, fun b hlt _ => hb.block b (by omega)⟩
theorem PutFrame.trans {g base : Nat} {a b c : World} (h : PutFrame g base a b) (k : PutFrame g base b c) : PutFrame g base a c :=
 ⟨k.1.trans h.1, k.2.1.trans h.2.1, k.2.2.1.trans h.2.2.1, Nat.le_trans h.2.2.2.1 k.2.2.2.1, fun b h1 h2 => (k.2.2.2.2 b h1 h2).trans (h.2.2.2.2 b h1 h2)⟩
theorem PutFrame.under {g base base0 : Nat} {w w' : World} (h : PutFrame g base w w') (h0 : base0 ≤ g) (hg : g < base) : Below base0 w w' := ⟨h.1, h.2.1, h.2.2.1, h.2.2.2.1, fun k hk => h.2.2.2.2 k (by omega) (by omega)⟩
theorem putFrame_set {g base : Nat} (w : World) (b o : Nat) (v : Value) (h : b = g ∨ base ≤ b) : PutFrame g base w (w.setCell ⟨b, o, none⟩ v) :=
 ⟨rfl, rfl, rfl, by simp [World.setCell], fun k h1 h2 => Below.heap_setCell w ⟨b, o, none⟩ v k (by simp; omega)⟩
theorem putFrame_grown {g base : Nat} {w w' : World} {row : Option Nat} (h : w.grownBy w' row) (hr : ∀ b, row = some b → base ≤ b) (hbw : base ≤ w.heap.size) : PutFrame g base w w' :=
 ⟨h.os, h.tape, h.output, h.size, fun b h1 _ => h.block b (by omega) (fun e => by have := hr b e.symm; omega)⟩
set_option maxHeartbeats 4000000 in
set_option maxRecDepth 100000 in
theorem profPut_is (T Tm : Nat → Prop) (base g : Nat) (c k : Int) (rv mv : Value) (rows : List Row) (m : List Int) (n : Int) (w : World)
  (hg : w.heap[g]? = some (.cells #[.int .i64 c, .int .u8 k, rv] 24 (0, 0))) (hgb : g < base) (hbw : base ≤ w.heap.size) (ho : OwnT T base w rv rows) (hk : 0 ≤ k ∧ k ≤ 255) (ha : Asc rows) (hm : RInts Tm w mv m) (hl : rows.length ≤ 1000)
  (hwf : ∀ r ∈ rows, -4611686018427387904 ≤ r.many ∧ r.many ≤ 4611686018427387903) (hn : -4611686018427387904 ≤ n ∧ n ≤ 4611686018427387903) (his : isR rows m = true) :
  Calls Tryz.prog 150 #[.pointer (some ⟨g, 0, none⟩), mv, .int .i64 n] w (PutPGives T base g c k (putR rows m n) w) := by
 obtain ⟨hp, hpm⟩ := isR_iff.1 his
 have hput := putR_is n hp hpm
 have hP := profPlace Any Tm _ mv ⟨c, k, rows⟩ m w (show VProf Any w (.agg #[.int .i64 c, .int .u8 k, rv]) ⟨c, k, rows⟩ from by
  obtain ⟨a, cap, rfl⟩ := ho.shape
  exact ⟨a, cap, rfl, hk.1, hk.2, ho.rsl (by show rows.length ≤ _; omega)⟩) hm ha
 simp only at hP
 rw [his] at hP
 obtain ⟨a, cap, rfl⟩ := ho.shape
 obtain ⟨a2, cap2, rfl, -, -⟩ := RSl.shape hm
 obtain ⟨gr, c0, d0, rfl, hgr1, hgr2, hc0, hd0, hfr, hx⟩ := Own.at2 ho hp
 obtain ⟨a3, cap3, rfl, rfl, hl3, hw3, hI3⟩ := hx.open
 obtain ⟨-, kb, fb⟩ := qa5 (Below.refl _ w) (qa0 hg) hg
 have hmw := hwf _ (List.getElem_mem hp)
 obtain ⟨z, hz⟩ : ∃ z, rows[posR rows m].many = z := ⟨_, rfl⟩
 have hFin : ∀ w1, Below w.heap.size w w1 → PutPGives T base g c k (putR rows m n) w (.returned (.tuple #[])) (w1.setCell ⟨gr, posR rows m * 2 + 1, none⟩ (.int .i64 (z + n))) := fun w1 hb1 => by
  have h1 := (ho.below hb1).setMany hp (m := z + n) (by simp [Lit.wf, IntKind.min, IntKind.max, IntKind.bits, IntKind.signed]; omega)
  rw [hput]
  refine ⟨⟨_, rfl⟩, some ⟨gr, 0, none⟩, rows.length, cap, (Below.heap_setCell _ _ _ _ (by simp; omega)).trans ((hb1.block g (by omega)).trans hg), ?_, (putFrame_below hb1 hbw).trans (putFrame_set _ _ _ _ (.inr hgr1))⟩
  rw [hz]
  rwa [hpm] at h1
 obtain ⟨pp, hpp⟩ : ∃ pp, posR rows m = pp := ⟨_, rfl⟩
 have hkc : ∀ w1, Below w.heap.size w w1 → (∀ i, w1.cell? ⟨g, i, none⟩ = (#[.int .i64 c, .int .u8 k, .slice (some ⟨gr, 0, none⟩) rows.length cap] : Array Value)[i]?) ∧ w1.cell? ⟨gr, posR rows m * 2 + 1, none⟩ = some (.int .i64 z) ∧ w1.frozen? ⟨gr, posR rows m * 2 + 1, none⟩ = false := fun w1 hb1 =>
  ⟨(qa5 hb1 (qa0 hg) hg).2.1, by rw [← hz]; exact (Same.of_below (S := Any) hb1).cell trivial hd0, (hb1.frozen hgr2).trans (hfr _)⟩
 simp only [hpp] at hP hFin hkc hp
 have HP := Lib.hid hP; have HFin := Lib.hid hFin; have Hkc := Lib.hid hkc
 clear hP hFin hkc hpm hput his hx hI3 ho hm hg hwf hc0 hd0 hw3 hl3 hfr ha
 simp only [hz] at hmw
 clear hz hpp
 go_enter Tryz.func150, Tryz.ntmps150
 go_wp2_with (go_at_call 196; refine HP.out.mono ?_; rintro e w1 ⟨rfl, hb1⟩; obtain ⟨k1, k2, k3⟩ := Hkc.out w1 hb1)
 refine bodyPost_ret (results_none rfl _ _ _) rfl ?_
 exact HFin.out w1 hb1
end

section
open Go Go.RowKit Go.Shelf

theorem put_ins (T : Nat → Prop) (base : Nat) (rv : Value) (rows : List Row) (m : List Int) (n : Int) (w w4 : World) (a4 : Option Addr) (c4 lo : Nat) (ho : OwnT T base w rv rows) (hbw : base ≤ w.heap.size) (hT : ∀ b, w.heap.size ≤ b → T b) (hl : rows.length ≤ 1000) (hn : (Lit.int .i64 n).wf = true) (hi : isR rows m = false)
  (hb : Below w.heap.size w w4) (hlo : w.heap.size ≤ lo) (h4 : Own lo 3 1 (dInt .i64) w4 (.slice a4 m.length c4) m) (hml : m.length ≤ 1000) :
  Calls Tryz.prog 197 #[rv, .int .i64 (posR rows m), .slice (some ⟨w4.heap.size, 0, none⟩) 1 1] (w4.alloc (.cells #[.slice a4 m.length c4, .int .i64 n] 66))
   (InsGives T base rv (putR rows m n) (w4.alloc (.cells #[.slice a4 m.length c4, .int .i64 n] 66))) := by
 have hz := hb.size
 have hbn := qa1 w4 (.cells #[.slice a4 m.length c4, .int .i64 n] 66)
 have hb5 := hb.trans (hbn.mono hz)
 have hown : ∀ b, rv.ownBlock = some b → base ≤ b ∧ b < w.heap.size := Own.lt ho
 rw [putR_not n hi]
 refine insRows T base rv rows _ w4.heap.size _ _ ⟨m, n⟩ _ (ho.below hb5) (posR_le rows m) (qa9 _ _) (fun e => ?_) ?_ (by have := hb5.size; omega) hl
 ·have := (hown _ e.symm).2; omega
 ·refine ⟨_, rfl, hn, RInts.same (.of_below hbn) ?_⟩
  have h1 : RInts (From lo) w4 (.slice a4 m.length c4) m := Own.rsl h4 (by omega)
  refine RInts.mono (fun b hb' => ⟨hT b ?_, ?_, fun e => ?_⟩) (RSl.cut (by omega) (fun _ _ h => h) h1)
  ·have := hb'.1; simp only [From] at this; omega
  ·have := hb'.2; simp; omega
  ·have := (hown b e.symm).2; have := hb'.1; simp only [From] at this; omega
set_option maxHeartbeats 4000000 in
set_option maxRecDepth 100000 in
theorem profPut_not (T Tm : Nat → Prop) (base g : Nat) (c k : Int) (rv mv : Value) (rows : List Row) (m : List Int) (n : Int) (w : World)
  (hg : w.heap[g]? = some (.cells #[.int .i64 c, .int .u8 k, rv] 24 (0, 0))) (hgb : g < base) (hbw : base ≤ w.heap.size) (ho : OwnT T base w rv rows) (hTg : ¬ T g) (hT : ∀ b, w.heap.size ≤ b → T b) (hk : 0 ≤ k ∧ k ≤ 255) (ha : Asc rows) (hm : RInts Tm w mv m) (hml : m.length ≤ 1000) (hl : rows.length ≤ 1000)
  (hn : (Lit.int .i64 n).wf = true) (his : isR rows m = false) :
  Calls Tryz.prog 150 #[.pointer (some ⟨g, 0, none⟩), mv, .int .i64 n] w (PutPGives T base g c k (putR rows m n) w) := by
 have hP := profPlace Any Tm _ mv ⟨c, k, rows⟩ m w (show VProf Any w (.agg #[.int .i64 c, .int .u8 k, rv]) ⟨c, k, rows⟩ from by
  obtain ⟨a, cap, rfl⟩ := ho.shape
  exact ⟨a, cap, rfl, hk.1, hk.2, ho.rsl (by show rows.length ≤ _; omega)⟩) hm ha
 simp only at hP
 rw [his] at hP
 have hown : ∀ b, rv.ownBlock = some b → base ≤ b ∧ b < w.heap.size := Own.lt ho
 have hCl : ∀ W, Below w.heap.size w W → Calls Tryz.prog 120 #[mv] W (GivesOwn 3 1 (dInt .i64) m W) := fun W hW => cloneInts Tm mv m W (hm.same (.of_below hW)) (by omega)
 have hI := fun W w4 a4 c4 (hW : Below w.heap.size w W) (h4 : Below W.heap.size W w4) h => put_ins T base rv rows m n w w4 a4 c4 W.heap.size ho hbw hT hl hn his (hW.trans (h4.mono hW.size)) hW.size h hml
 have hkc : ∀ W, Below w.heap.size w W → (∀ i, W.cell? ⟨g, i, none⟩ = (#[.int .i64 c, .int .u8 k, rv] : Array Value)[i]?) ∧ (∀ i, W.frozen? ⟨g, i, none⟩ = false) ∧ g < W.heap.size := fun W hW =>
  ⟨(qa5 hW (qa0 hg) hg).2.1, (qa5 hW (qa0 hg) hg).2.2, by have := hW.size; omega⟩
 have hkd : ∀ w5 w6, Below w.heap.size w w5 → w5.grownBy w6 rv.ownBlock → (∀ i, w6.cell? ⟨g, i, none⟩ = (#[.int .i64 c, .int .u8 k, rv] : Array Value)[i]?) ∧ (∀ i, w6.frozen? ⟨g, i, none⟩ = false) := fun w5 w6 hW hgr => by
  have e : w6.heap[g]? = some (.cells #[.int .i64 c, .int .u8 k, rv] 24 (0, 0)) := (hgr.block g (by have := hW.size; omega) (fun e => by have := (hown g e.symm).1; omega)).trans ((hW.block g (by omega)).trans hg)
  exact ⟨(qa5 (Below.refl _ w6) (qa0 e) e).2.1, (qa5 (Below.refl _ w6) (qa0 e) e).2.2⟩
 have hFin : ∀ w5 w6 a n' cap, Below w.heap.size w w5 → w5.grownBy w6 rv.ownBlock → OwnT T base w6 (.slice a n' cap) (putR rows m n) → ((Value.slice a n' cap).ownBlock = rv.ownBlock ∨ ∃ b, (Value.slice a n' cap).ownBlock = some b ∧ w5.heap.size ≤ b) →
   PutPGives T base g c k (putR rows m n) w (.returned (.tuple #[])) (w6.setCell ⟨g, 2, none⟩ (.slice a n' cap)) := fun w5 w6 a n' cap hW hgr ho6 hob => by
  have hz := hW.size
  have e : w6.heap[g]? = some (.cells #[.int .i64 c, .int .u8 k, rv] 24 (0, 0)) := (hgr.block g (by omega) (fun e => by have := (hown g e.symm).1; omega)).trans ((hW.block g (by omega)).trans hg)
  refine ⟨⟨_, rfl⟩, a, n', cap, qa2 e _, ho6.setCell hTg (fun e => ?_) _ _, ((putFrame_below hW hbw).trans (putFrame_grown hgr (fun b hb => (hown b hb).1) (by omega))).trans (putFrame_set _ _ _ _ (.inl rfl))⟩
  rcases hob with h | ⟨b, h, hb⟩
  ·rw [h] at e; have := (hown g e.symm).1; omega
  ·rw [h] at e; injection e with e; omega
 obtain ⟨a, cap, rfl⟩ := ho.shape
 obtain ⟨a2, cap2, rfl, -, -⟩ := RSl.shape hm
 obtain ⟨pp, hpp⟩ : ∃ pp, posR rows m = pp := ⟨_, rfl⟩
 simp only [hpp] at hP hI
 have HP := Lib.hid hP; have HCl := Lib.hid hCl; have HI := Lib.hid hI; have Hkc := Lib.hid hkc; have Hkd := Lib.hid hkd; have HFin := Lib.hid hFin
 clear hP hCl hI hkc hkd hFin ho hm hg hT hTg ha his hpp hown hn
 go_enter Tryz.func150, Tryz.ntmps150
 obtain ⟨k1, k2, k3⟩ := Hkc.out w (Below.refl _ _)
 go_wp2_with (go_at_call 196; refine HP.out.mono ?_; rintro e w1 ⟨rfl, hb1⟩; obtain ⟨j1, j2, j3⟩ := Hkc.out w1 hb1; have hd1 := Below.drew hb1)
 go_region_law (first
  | (go_simp; go_at_call 120; refine (HCl.out _ hd1).mono ?_; rintro e w4 ⟨v4, rfl, ho4, hb4⟩; obtain ⟨a4, c4, rfl⟩ := id (Own.shape ho4); have hb5 := hd1.trans (hb4.mono hb1.size); obtain ⟨i1, i2, i3⟩ := Hkc.out w4 hb5; have hb6 := hb5.trans ((qa1 w4 (.cells #[.slice a4 m.length c4, .int .i64 n] 66)).mono hb5.size); obtain ⟨h1, h2, h3⟩ := Hkc.out _ hb6; have HI4 := Lib.hid (HI.out _ w4 a4 c4 hd1 hb4 ho4); clear ho4)
  | (go_simp; go_at_call 197; refine HI4.out.mono ?_; rintro e w6 ⟨rv', rfl, ho6, hg6, hob⟩; obtain ⟨a6, c6, rfl⟩ := id ho6.shape; obtain ⟨l1, l2⟩ := Hkd.out _ w6 hb6 hg6; have HF := Lib.hid (HFin.out _ w6 _ _ _ hb6 hg6 ho6 hob); clear ho6 hg6 hob))
 all_goals
  go_wp2
  refine bodyPost_ret (results_none rfl _ _ _) rfl ?_
  exact HF.out
end

section
open Go Go.RowKit Go.Shelf

theorem wf62 {n : Int} (h : -4611686018427387904 ≤ n ∧ n ≤ 4611686018427387903) : (Lit.int .i64 n).wf = true := by
 simp [Lit.wf, IntKind.min, IntKind.max, IntKind.bits, IntKind.signed]; omega
theorem profPut (T Tm : Nat → Prop) (base g : Nat) (c k : Int) (rv mv : Value) (rows : List Row) (m : List Int) (n : Int) (w : World)
  (hg : w.heap[g]? = some (.cells #[.int .i64 c, .int .u8 k, rv] 24 (0, 0))) (hgb : g < base) (hbw : base ≤ w.heap.size) (ho : OwnT T base w rv rows) (hTg : ¬ T g) (hT : ∀ b, w.heap.size ≤ b → T b) (hk : 0 ≤ k ∧ k ≤ 255) (ha : Asc rows) (hm : RInts Tm w mv m) (hml : m.length ≤ 1000) (hl : rows.length ≤ 1000)
  (hwf : ∀ r ∈ rows, -4611686018427387904 ≤ r.many ∧ r.many ≤ 4611686018427387903) (hn : -4611686018427387904 ≤ n ∧ n ≤ 4611686018427387903) :
  Calls Tryz.prog 150 #[.pointer (some ⟨g, 0, none⟩), mv, .int .i64 n] w (PutPGives T base g c k (putR rows m n) w) := by
 cases h : isR rows m
 ·exact profPut_not T Tm base g c k rv mv rows m n w hg hgb hbw ho hTg hT hk ha hm hml hl (wf62 hn) h
 ·exact profPut_is T Tm base g c k rv mv rows m n w hg hgb hbw ho hk ha hm hl hwf hn h
def ProfGives (S : Nat → Prop) (I : Int) (V : Prof) (w : World) (e : Ending) (w' : World) : Prop := ∃ v, e = .returned (.tuple #[v, .int .i64 I]) ∧ VProf (fun b => S b ∨ w.heap.size ≤ b) w' v V ∧ Below w.heap.size w w'
theorem ProfGives.none {S : Nat → Prop} {I : Int} {w w' : World} (hb : Below w.heap.size w w') : ProfGives S I noP w (.returned (.tuple #[.agg #[.int .i64 0, .int .u8 0, .slice none 0 0], .int .i64 I])) w' :=
 ⟨_, rfl, ⟨Option.none, 0, rfl, by show (0 : Int) ≤ 0; omega, by show (0 : Int) ≤ 255; omega, RSl.nil⟩, hb⟩
theorem row_le {rows : List Row} (h : Asc rows) : ∀ r ∈ rows, r.many ≤ sumR rows := by
 induction rows with
 | nil => intro r hr; cases hr
 | cons a rs ih =>
  intro r hr
  have h1 := h.1
  have h2 := sumR_nonneg h.2.2
  simp only [sumR, List.map_cons, List.sum_cons] at *
  rcases List.mem_cons.1 hr with rfl | hr
  ·omega
  ·have := ih h.2.2 r hr; omega
theorem Valid.many {p : Prof} (h : Valid p) : ∀ r ∈ p.rows, 0 < r.many ∧ r.many ≤ 1000000 := fun r hr => ⟨h.asc.many r hr, Int.le_trans (row_le h.asc r hr) h.sum⟩
def TT (S : Nat → Prop) (e : Nat) : Nat → Prop := fun b => S b ∨ e ≤ b
theorem OwnT.rslT {T : Nat → Prop} {base : Nat} {w : World} {v : Value} {rows : List Row} (h : OwnT T base w v rows) (hl : rows.length ≤ 140737488355328) (U : Nat → Prop) (h1 : ∀ b, T b → U b) (h2 : ∀ b, base ≤ b → U b) : RRows U w v rows :=
 RSl.mono (fun _ _ _ hd => dRow.mono (fun b hb => h1 b hb.1) hd) (fun b hb => h2 b hb) (Own.rsl h hl)
structure Held (S : Nat → Prop) (s e : Nat) (c k : Int) (rows : List Row) (a : Option Addr) (n cap : Nat) (w W : World) : Prop where
 box : W.heap[s]? = some (.cells #[.int .i64 c, .int .u8 k, .slice a n cap] 24 (0, 0))
 own : OwnT (TT S e) e W (.slice a n cap) rows
 below : Below s w W
 size : e ≤ W.heap.size
theorem Held.n {S : Nat → Prop} {s e : Nat} {c k : Int} {rows : List Row} {a : Option Addr} {n cap : Nat} {w W : World} (h : Held S s e c k rows a n cap w W) : n = rows.length := by
 obtain ⟨_, _, e⟩ := h.own.shape; simp at e; exact e.2.1
theorem Held.end {S : Nat → Prop} {s e : Nat} {c k : Int} {rows : List Row} {a : Option Addr} {n cap : Nat} {w W W5 : World} (h : Held S s e c k rows a n cap w W) (hs : s = w.heap.size) (hS : ∀ b, S b → b < s) (hk : 0 ≤ k ∧ k ≤ 255) (hl : rows.length ≤ 1000) (hb : Below W.heap.size W W5) (j : Nat) (hj : s < j ∧ j < e) (x y z : Value) :
  VProf (fun b => S b ∨ w.heap.size ≤ b) (((W5.setCell ⟨j, 0, none⟩ x).setCell ⟨j, 1, none⟩ y).setCell ⟨j, 2, none⟩ z) (.agg #[.int .i64 c, .int .u8 k, .slice a n cap]) ⟨c, k, rows⟩ ∧ Below w.heap.size w (((W5.setCell ⟨j, 0, none⟩ x).setCell ⟨j, 1, none⟩ y).setCell ⟨j, 2, none⟩ z) := by
 have hn := h.n
 subst hn
 have hT : ¬ TT S e j := fun h => by
  rcases h with h | h
  ·have := hS _ h; omega
  ·omega
 have ho := h.own.below hb
 have hne : some j ≠ (Value.slice a rows.length cap).ownBlock := fun e => by have := (Own.lt ho j e.symm).1; omega
 have hz := h.size
 refine ⟨⟨a, cap, rfl, hk.1, hk.2, (((ho.setCell hT hne 0 x).setCell hT hne 1 y).setCell hT hne 2 z).rslT (by omega) _ (fun b hb => by rcases hb with hb | hb; exact .inl hb; exact .inr (by omega)) (fun b hb => .inr (by omega))⟩, ?_⟩
 subst hs
 exact (((h.below.trans (hb.mono h.below.size)).setCell (p := ⟨j, 0, none⟩) (by simp; omega) _).setCell (p := ⟨j, 1, none⟩) (by simp; omega) _).setCell (p := ⟨j, 2, none⟩) (by simp; omega) _
end

section
open Go Go.RowKit Go.Shelf

theorem sumR_takeL : ∀ {b : List Row}, (∀ r ∈ b, 0 < r.many) → ∀ k, sumR (b.take k) ≤ sumR b
 | [], _, k => by simp
 | r :: b, h, 0 => by
  have h1 := sumR_takeL (fun s hs => h s (List.mem_cons_of_mem _ hs)) (b := b) 0
  have := h r (List.mem_cons_self ..)
  simp only [List.take_zero, sumR, List.map_nil, List.sum_nil, List.map_cons, List.sum_cons] at *
  omega
 | r :: b, h, k + 1 => by
  have h1 := sumR_takeL (fun s hs => h s (List.mem_cons_of_mem _ hs)) (b := b) k
  simp only [List.take_succ_cons, sumR, List.map_cons, List.sum_cons] at *
  omega
theorem Held.step {S : Nat → Prop} {s e : Nat} {c k : Int} {rows : List Row} {a : Option Addr} {n cap : Nat} {w W W' : World} (h : Held S s e c k rows a n cap w W) (hb : Below W.heap.size W W') (hs : s ≤ W.heap.size) : Held S s e c k rows a n cap w W' :=
 ⟨(hb.block _ (qa0 h.box)).trans h.box, h.own.below hb, h.below.trans (hb.mono hs), Nat.le_trans h.size hb.size⟩
end
end Go.Proofs.YthcbkhfmdginiaaGreat
