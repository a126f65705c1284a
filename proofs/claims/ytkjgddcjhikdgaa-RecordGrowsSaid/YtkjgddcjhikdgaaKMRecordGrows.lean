/- The law RecordGrows returns true whatever the input, and every argument reads behind the call as it read before. No condition. -/
import Derived.Test.YtkjgddcjhikdgaaKGProf
import Derived.Test.YtkjgddcjhikdgaaKGPut
import Derived.Test.YtkjgddcjhikdgaaKGAdd
import Derived.Test.YtkjgddcjhikdgaaKGOrd
import Derived.Test.YtkjgddcjhikdgaaKGTell
import Derived.Test.YtkjgddcjhikdgaaRows
import Derived.Test.YtkjgddcjhikdgaaKGFoot
import Derived.Lib.SliceRun
import Derived.Deep.RegionLaw
import Derived.Shelf.RegionOpenPlain
import Derived.WalkKit
import Derived.ProofKit
import Derived.OpenShut
import Derived.ShutString
import Derived.ChangeOld
import Derived.Below

/- What Put does to the batches and to their tally: plain laws; no program. -/
namespace Go.Proofs.Ytkjgddcjhikdgaa
open Go Go.RowKit Go.Shelf

def wasL (l : List Btc) (i : Nat) : List Blt := ((l[i]?).map Btc.blts).getD []
theorem wasL_at {l : List Btc} {i : Nat} (h : i < l.length) : wasL l i = l[i].blts := by simp [wasL, h]
theorem wasL_over {l : List Btc} {i : Nat} (h : l.length ≤ i) : wasL l i = [] := by simp [wasL, h]
/-- The batch i0 has got one ballot more; all else stands. -/
structure Grown (l x : List Btc) (nm : ByteArray) (b : Blt) (i0 : Nat) : Prop where
  lt : i0 < x.length
  len : l.length ≤ x.length ∧ x.length ≤ l.length + 1
  name : ∀ i (h : i < l.length) (h' : i < x.length), x[i].name = l[i].name
  old : ∀ i (h' : i < x.length), i ≠ i0 → i < l.length ∧ x[i].blts = wasL l i
  here : ∀ (h : i0 < x.length), sameName x[i0].name nm = true ∧ x[i0].blts = wasL l i0 ++ [b]
theorem idxB_non {α : Type} {p : α → Bool} : ∀ {l : List α}, idxB p l < 0 → ∀ x ∈ l, p x = false
  | [], _, x, hx => by cases hx
  | y :: l, h, x, hx => by
    have hg := idxB_ge p l
    rw [idxB] at h
    split at h
    · omega
    · rename_i hy
      split at h
      · rename_i hl
        rcases List.mem_cons.1 hx with rfl | hx
        · simpa using hy
        · exact idxB_non hl x hx
      · omega
theorem idxB_some {α : Type} {p : α → Bool} : ∀ {l : List α}, ¬ idxB p l < 0 → ∃ h : (idxB p l).toNat < l.length, p (l[(idxB p l).toNat]) = true
  | [], h => by simp [idxB] at h
  | y :: l, h => by
    rw [idxB] at h ⊢
    split at h
    · rename_i hy
      simp only [hy, if_true]
      exact ⟨by simp, by simpa using hy⟩
    · rename_i hy
      split at h
      · omega
      · rename_i hl
        obtain ⟨h1, h2⟩ := idxB_some hl
        simp only [hy, Bool.false_eq_true, if_false, hl]
        have e : (idxB p l + 1).toNat = (idxB p l).toNat + 1 := by omega
        refine ⟨by rw [e, List.length_cons]; omega, ?_⟩
        simp only [e, List.getElem_cons_succ]
        exact h2
theorem at_some {l : List Btc} {nm : ByteArray} (h : ¬ atI l nm < 0) : ∃ h : (atI l nm).toNat < l.length, sameName l[(atI l nm).toNat].name nm = true := idxB_some h
theorem put_new {l : List Btc} {nm : ByteArray} {b : Blt} (h : atI l nm < 0) : put1 l nm b = l ++ [⟨nm, [b]⟩] := by rw [put1, if_pos h]
theorem put_old {l : List Btc} {nm : ByteArray} {b : Blt} (h : ¬ atI l nm < 0) : put1 l nm b = l.modify (atI l nm).toNat (grow1 b) := by rw [put1, if_neg h]
theorem put_grown (l : List Btc) (nm : ByteArray) (b : Blt) : ∃ i0, Grown l (put1 l nm b) nm b i0 := by
  by_cases h : atI l nm < 0
  · rw [put_new h]
    refine ⟨l.length, by simp, by simp, fun i h1 _ => by rw [List.getElem_append_left h1], fun i h1 hne => ?_, fun _ => ?_⟩
    · simp only [List.length_append, List.length_cons, List.length_nil] at h1
      have hl : i < l.length := by omega
      exact ⟨hl, by rw [List.getElem_append_left hl, wasL_at hl]⟩
    · rw [wasL_over (Nat.le_refl _)]; simp [sameName]
  · rw [put_old h]
    obtain ⟨h1, h2⟩ := at_some h
    refine ⟨(atI l nm).toNat, by simpa using h1, by simp, fun i k1 k2 => ?_, fun i k1 hne => ?_, fun k1 => ?_⟩
    · rw [List.getElem_modify]; split
      · rfl
      · rfl
    · have hl : i < l.length := by simpa using k1
      refine ⟨hl, ?_⟩
      rw [List.getElem_modify, if_neg (fun e => hne e.symm), wasL_at hl]
    · rw [List.getElem_modify, if_pos rfl]
      exact ⟨h2, by rw [wasL_at h1]; rfl⟩
theorem rowsOf_set : ∀ (l : List Btc) (i : Nat) (b : Blt) (_ : i < l.length) (m : List Int), occ (rowsOf (l.modify i (grow1 b))) m = occ (rowsOf l) m + if b.marks = m then 1 else 0
  | [], _, _, hi, _ => by simp at hi
  | x :: l, 0, b, _, m => by
    rw [List.modify_zero_cons, rowsOf_cons, rowsOf_cons, occ_append, occ_append]
    simp only [grow1, List.map_append, List.map_cons, List.map_nil, occ_append, occ_cons, occ_nil]
    omega
  | x :: l, i + 1, b, hi, m => by
    rw [List.modify_succ_cons, rowsOf_cons, rowsOf_cons, occ_append, occ_append, rowsOf_set l i b (by simpa using hi) m]
    omega
theorem occ_put (l : List Btc) (nm : ByteArray) (b : Blt) (m : List Int) : occ (rowsOf (put1 l nm b)) m = occ (rowsOf l) m + if b.marks = m then 1 else 0 := by
  by_cases h : atI l nm < 0
  · rw [put_new h, rowsOf_append, occ_append, rowsOf_cons, rowsOf_nil]
    simp only [List.map_cons, List.map_nil, List.append_nil, occ_cons, occ_nil]
    omega
  · rw [put_old h]
    obtain ⟨h1, -⟩ := at_some h
    exact rowsOf_set l _ b h1 m
theorem putI_ok {l : List Btc} {c kind : Int} {nm : ByteArray} {b : Blt} (h : putI l c kind nm b = 0) : recCheck l c kind = 0 ∧ nameB nm = true ∧ (b.kind = kind ∧ checkB b c = 0) ∧ fullB l nm = false := by
  unfold putI at h
  split at h
  · rename_i h1
    split at h
    · rename_i h2
      split at h
      · omega
      · rename_i h3
        rw [Bool.and_eq_true] at h2
        exact ⟨h1, h2.1, by simpa [fitsB] using h2.2, by simpa using h3⟩
    · omega
  · exact absurd h ‹_›
theorem put1_check {l : List Btc} {c kind : Int} {nm : ByteArray} {b : Blt} (h : putI l c kind nm b = 0) : recCheck (put1 l nm b) c kind = 0 := by
  obtain ⟨h0, hn, hf, hfull⟩ := putI_ok h
  obtain ⟨h1, h2, h3, h4, h5⟩ := recCheck_ok h0
  have hfit : fitsB b c kind = true := by simp [fitsB, hf.1, hf.2]
  by_cases ha : atI l nm < 0
  · rw [fullB, if_pos ha, decide_eq_false_iff_not] at hfull
    rw [put_new ha]
    refine recCheck_of h1 (by simp; omega) (fun x hx => ?_) (fun x hx => ?_) ?_
    · rcases List.mem_append.1 hx with hx | hx
      · exact h3 x hx
      · obtain rfl := List.mem_singleton.1 hx; simp
    · rcases List.mem_append.1 hx with hx | hx
      · exact h4 x hx
      · obtain rfl := List.mem_singleton.1 hx; simp [mayB, hn, hfit]
    · rw [apart_iff] at h5 ⊢
      rw [List.map_append, List.nodup_append]
      refine ⟨h5, by simp, fun p hp q hq => ?_⟩
      obtain ⟨y, hy, rfl⟩ := List.mem_map.1 hp
      simp only [List.map_cons, List.map_nil, List.mem_singleton] at hq
      have := idxB_non ha y hy
      rw [sameName_eq, decide_eq_false_iff_not] at this
      rw [hq]; exact this
  · obtain ⟨k1, -⟩ := at_some ha
    rw [fullB, if_neg ha, List.getElem?_eq_getElem k1] at hfull
    simp only [Option.map_some, Option.getD_some, decide_eq_false_iff_not] at hfull
    rw [put_old ha]
    have hmem : ∀ x ∈ l.modify (atI l nm).toNat (grow1 b), x ∈ l ∨ x = grow1 b l[(atI l nm).toNat] := by
      intro x hx
      obtain ⟨i, hi, rfl⟩ := List.getElem_of_mem hx
      rw [List.getElem_modify]
      split
      · rename_i e; subst e; exact .inr rfl
      · exact .inl (List.getElem_mem _)
    refine recCheck_of h1 (by simpa using h2) (fun x hx => ?_) (fun x hx => ?_) ?_
    · rcases hmem x hx with hx | rfl
      · exact h3 x hx
      · have := h3 _ (List.getElem_mem k1)
        simp only [grow1, List.length_append, List.length_cons, List.length_nil]
        omega
    · rcases hmem x hx with hx | rfl
      · exact h4 x hx
      · have := h4 _ (List.getElem_mem k1)
        simp only [mayB, grow1, Bool.and_eq_true, Bool.not_eq_true', List.any_append, Bool.or_eq_false_iff] at this ⊢
        exact ⟨this.1, this.2, by simp [hfit]⟩
    · rw [apart_iff] at h5 ⊢
      have e : (l.modify (atI l nm).toNat (grow1 b)).map (fun b => b.name.data.toList) = l.map fun b => b.name.data.toList := by
        refine List.ext_getElem (by simp) fun i i1 i2 => ?_
        simp only [List.getElem_map, List.getElem_modify]
        split
        · rfl
        · rfl
      rw [e]; exact h5
theorem isR_of {rs : List Row} (ha : Asc rs) {m : List Int} (h : 0 < cnt rs m) : isR rs m = true := by
  cases he : isR rs m
  · rw [cnt_not ha he] at h; omega
  · rfl
/-- The tallies ahead of Put and behind it. -/
theorem put_tally {l : List Btc} {c kind : Int} {nm : ByteArray} {b : Blt} (h : putI l c kind nm b = 0) :
    (tallyI l c kind = 0 ∧ tallyI (put1 l nm b) c kind = 0 ∧ takeI (tallyV (put1 l nm b) c kind) b 1 = 0 ∧ takeV (tallyV (put1 l nm b) c kind) b 1 = tallyV l c kind) ∨
    ((tallyI l c kind = 0 ∨ tallyI l c kind = 9) ∧ tallyI (put1 l nm b) c kind = 9) := by
  obtain ⟨h0, hn, hf, hfull⟩ := putI_ok h
  have hx := put1_check h
  have ho := occ_put l nm b
  have hle : (tal (rowsOf l)).length ≤ (tal (rowsOf (put1 l nm b))).length := tal_more fun m => by rw [ho]; split <;> omega
  by_cases hg : 64 < (tal (rowsOf (put1 l nm b))).length
  · refine .inr ⟨?_, by rw [tallyI, if_pos hx, if_pos hg]⟩
    rw [tallyI, if_pos h0]
    split <;> simp
  · have e1 : tallyI (put1 l nm b) c kind = 0 := by rw [tallyI, if_pos hx, if_neg hg]
    have e2 : tallyI l c kind = 0 := by rw [tallyI, if_pos h0, if_neg (by omega)]
    obtain ⟨hv, -, -⟩ := tally_valid e1
    have hc : ∀ m, cnt (tal (rowsOf (put1 l nm b))) m = cnt (tal (rowsOf l)) m + if b.marks = m then 1 else 0 := fun m => by rw [tal_cnt, tal_cnt, ho]
    have hpos : 0 < cnt (tal (rowsOf (put1 l nm b))) b.marks := by
      rw [hc, if_pos rfl]; have := cnt_nonneg (tal_asc (rowsOf l)) b.marks; omega
    have hm : mayP (tallyV (put1 l nm b) c kind) b 1 = 0 := by
      rw [tallyV, if_pos e1, mayP, if_neg (by rw [chkP_zero.2 hv]; simp), if_pos hf, if_neg (by omega)]
    have ht : takeI (tallyV (put1 l nm b) c kind) b 1 = 0 := by
      rw [takeI, if_neg (by rw [hm]; simp), if_pos]
      rw [tallyV, if_pos e1]
      exact ⟨isR_of (tal_asc _) hpos, by show 1 ≤ cnt (tal (rowsOf (put1 l nm b))) b.marks; omega⟩
    refine .inl ⟨e2, e1, ht, ?_⟩
    rw [takeV, if_pos ht, tallyV, if_pos e1, tallyV, if_pos e2]
    show Prof.mk c kind (dropR (tal (rowsOf (put1 l nm b))) b.marks 1) = ⟨c, kind, tal (rowsOf l)⟩
    congr 1
    refine asc_ext (dropR_asc (tal_asc _) (by omega)).1 (tal_asc _) fun m => ?_
    rw [dropR_cnt (tal_asc _) ((cnt_pos (tal_asc _)).2 hpos), hc]
    omega
end Go.Proofs.Ytkjgddcjhikdgaa

/- The contract of slices.Delete at rows: one row, out of rows of the call's own. -/
namespace Go.Proofs.Ytkjgddcjhikdgaa
open Go Go.RowKit Go.Shelf

theorem lay_set {cur : List Value} {o : Nat} {v : Value} {r : List Value} (h : o < cur.length) : lay (cur.set o v) (o + 1) r = lay cur o (v :: r) := by
  have h1 : (cur.take o).length = o := by rw [List.length_take]; omega
  have h2 : (cur.take o ++ v :: cur.drop (o + 1)).take (o + 1) = cur.take o ++ [v] := by
    rw [List.take_append, h1, List.take_of_length_le (by omega), show o + 1 - o = 1 by omega]; rfl
  have h3 : (cur.take o ++ v :: cur.drop (o + 1)).drop (o + 1 + r.length) = cur.drop (o + (v :: r).length) := by
    rw [List.drop_append, h1, List.drop_eq_nil_of_le (by omega), show o + 1 + r.length - o = r.length + 1 by omega, List.drop_succ_cons, List.drop_drop, List.nil_append]
    congr 1; simp; omega
  rw [lay, lay, List.set_eq_take_append_cons_drop, if_pos h, h2, h3]
  simp
theorem heap_setCells {g : Nat} {t : TypeId} : ∀ (vs : List Value) (o : Nat) (w : World) (cur : List Value), w.heap[g]? = some (.cells cur.toArray t (0, 0)) → o + vs.length ≤ cur.length → (w.setCells g o vs).heap[g]? = some (.cells (lay cur o vs).toArray t (0, 0))
  | [], o, w, cur, h, _ => by simpa [lay, World.setCells] using h
  | v :: r, o, w, cur, h, hl => by
    simp only [List.length_cons] at hl
    have h1 := heap_setCell_at (o := o) h v
    rw [show cur.toArray.setIfInBounds o v = (cur.set o v).toArray by simp] at h1
    have := heap_setCells r (o + 1) (w.setCell ⟨g, o, none⟩ v) (cur.set o v) h1 (by simp; omega)
    rw [lay_set (by omega)] at this
    exact this
theorem gb_setCells (g : Nat) : ∀ (vs : List Value) (o : Nat) (w : World), w.grownBy (w.setCells g o vs) (some g)
  | [], _, _ => ⟨rfl, rfl, rfl, Nat.le_refl _, fun _ _ _ => rfl⟩
  | v :: r, o, w => by
    have h1 := gb_setCell w g o v
    have h2 := gb_setCells g r (o + 1) (w.setCell ⟨g, o, none⟩ v)
    exact ⟨h2.os.trans h1.os, h2.tape.trans h1.tape, h2.output.trans h1.output, Nat.le_trans h1.size h2.size, fun b hb hne => (h2.block b (Nat.lt_of_lt_of_le hb h1.size) hne).trans (h1.block b hb hne)⟩
theorem run_clear_row {P : Program} (w : World) (t e ty : TypeId) (ht : P.underlying t = some (.slice e)) (hv : ∀ w, (zeroValue e).run P w = .ok (.agg #[.slice none 0 0, .int .i64 0]) w) (b o c : Nat)
    (hc : ∀ j, j < 2 → (w.cell? ⟨b, o + j, none⟩).isSome = true) (hf : ∀ j, j < 2 → w.frozen? ⟨b, o + j, none⟩ = false) :
    (Builtin.clear_ #[t] ty #[.slice (some ⟨b, o, none⟩) 1 c]).run P w = .ok (.tuple #[]) (w.setCells b o [.slice none 0 0, .int .i64 0]) := by
  have hzc : (Builtin.zeroCells (Value.agg #[.slice none 0 0, .int .i64 0]).cells 1).toList = [.slice none 0 0, .int .i64 0] := by kernel_rfl
  have hst := run_storeCells_cells (P := P) b o [.slice none 0 0, .int .i64 0] 0 w (by simpa using hc) (by simpa using hf) (by intro v hv'; simp at hv'; rcases hv' with rfl | rfl <;> rfl)
  simp only [Nat.add_zero] at hst
  simp [Builtin.clear_, run_underlying ht, hv, hzc, hst]
theorem eraseIdx_td {α : Type} (l : List α) (i : Nat) : l.eraseIdx i = l.take i ++ l.drop (i + 1) := List.eraseIdx_eq_take_drop_succ l i
set_option maxHeartbeats 4000000 in
set_option maxRecDepth 100000 in
theorem delRows (T : Nat → Prop) (base g cap i : Nat) (rows : List Row) (w : World) (ho : OwnT T base w (.slice (some ⟨g, 0, none⟩) rows.length cap) rows) (hi : i < rows.length) (hl : rows.length ≤ 1000) :
    Calls Try.prog 155 #[.slice (some ⟨g, 0, none⟩) rows.length cap, .int .i64 i, .int .i64 ((i : Int) + 1)] w fun e w' => e = .returned (.slice (some ⟨g, 0, none⟩) (rows.length - 1) cap) ∧ OwnT T base w' (.slice (some ⟨g, 0, none⟩) (rows.length - 1) cap) (rows.eraseIdx i) ∧ w.grownBy w' (some g) := by
  obtain ⟨cur, L, hg, hbg, hn, hm, hs, hL, hd, -⟩ := ho.cells
  have hLl := hd.1
  have hcg : ∀ j v, L[j]? = some v → w.cell? ⟨g, j, none⟩ = some v := fun j v hj => by
    rw [cell_of_row w g j cur.toArray 162 (0, 0) hg]
    have hlt := (List.getElem?_eq_some_iff.1 hj).1
    rw [← hL, List.getElem?_take_of_lt (by omega)] at hj
    simpa using hj
  have h1L := dec_one (dRow.one _) hd
  have hdl : (L.drop ((i + 1) * 2)).length = (rows.length - (i + 1)) * 2 := by rw [List.length_drop, hLl]; omega
  have hcs : ∀ W : World, W.heap[g]? = w.heap[g]? → ∀ j, j < cap * 2 → (W.cell? ⟨g, j, none⟩).isSome = true ∧ W.frozen? ⟨g, j, none⟩ = false := fun W hW j hj => by
    have hgW := hW.trans hg
    rw [cell_of_row W g j cur.toArray 162 (0, 0) hgW]
    exact ⟨by simp; omega, by simp [World.frozen?, hgW]⟩
  obtain ⟨A, hA, hsrc⟩ : ∃ A : Addr, (if cap = i + 1 then some (⟨g, 0, none⟩ : Addr) else some ⟨g, (i + 1) * 2, none⟩) = some A ∧ Hid (∀ t u, (L.drop ((i + 1) * 2))[t]? = some u → w.drew.cell? (A.add t) = some u) := by
    by_cases h : cap = i + 1
    · refine ⟨⟨g, 0, none⟩, by simp [h], Lib.hid fun t u hu => ?_⟩
      have := (List.getElem?_eq_some_iff.1 hu).1
      rw [hdl] at this
      omega
    · refine ⟨⟨g, (i + 1) * 2, none⟩, by simp [h], Lib.hid fun t u hu => ?_⟩
      rw [List.getElem?_drop] at hu
      rw [Addr.add_lit]
      exact hcg _ u hu
  obtain ⟨W1, hW1⟩ : ∃ W1, W1 = w.drew.setCells g (0 + i * 2) (L.drop ((i + 1) * 2)) := ⟨_, rfl⟩
  obtain ⟨W2, hW2⟩ : ∃ W2, W2 = W1.setCells g (0 + (rows.length - 1) * 2) [.slice none 0 0, .int .i64 0] := ⟨_, rfl⟩
  have hgW1 : W1.heap[g]? = some (.cells (lay cur (i * 2) (L.drop ((i + 1) * 2))).toArray 162 (0, 0)) := by
    rw [hW1, Nat.zero_add]
    exact heap_setCells _ _ w.drew cur hg (by rw [hdl, hs]; omega)
  have hl1 : (lay cur (i * 2) (L.drop ((i + 1) * 2))).length = cur.length := lay_length (by rw [hdl]; omega)
  have hgW2 : W2.heap[g]? = some (.cells (lay (lay cur (i * 2) (L.drop ((i + 1) * 2))) ((rows.length - 1) * 2) [.slice none 0 0, .int .i64 0]).toArray 162 (0, 0)) := by
    rw [hW2, Nat.zero_add]
    exact heap_setCells _ _ W1 _ hgW1 (by rw [hl1, hs]; simp; omega)
  have hsp : ∀ j, j < (L.drop ((i + 1) * 2)).length → (w.drew.cell? ⟨g, 0 + i * 2 + j, none⟩).isSome = true ∧ w.drew.frozen? ⟨g, 0 + i * 2 + j, none⟩ = false := fun j hj => by
    rw [hdl] at hj
    exact hcs w.drew rfl _ (by omega)
  have hcl : ∀ o m ty c, o = (rows.length - 1) * 2 → m = 1 → (Builtin.clear_ #[96] ty #[.slice (some ⟨g, o, none⟩) m c]).run Try.prog W1 = .ok (.tuple #[]) W2 := fun o m ty c e1 e2 => by
    subst e1 e2
    rw [hW2, Nat.zero_add]
    refine run_clear_row W1 _ _ ty Try.underlying96 (fun w => by kernel_rfl) g _ c (fun j hj => ?_) (fun j hj => ?_)
    · rw [cell_of_row W1 g _ _ _ _ hgW1]; simp; rw [hl1, hs]; omega
    · simp [World.frozen?, hgW1]
  have hgr : w.grownBy W2 (some g) := by
    have h1 := gb_setCells g (L.drop ((i + 1) * 2)) (0 + i * 2) w.drew
    rw [← hW1] at h1
    have h2 := gb_setCells g [.slice none 0 0, .int .i64 0] (0 + (rows.length - 1) * 2) W1
    rw [← hW2] at h2
    exact ⟨h2.os.trans h1.os, h2.tape.trans h1.tape, h2.output.trans h1.output, Nat.le_trans h1.size h2.size, fun b hb hne => (h2.block b (Nat.lt_of_lt_of_le hb h1.size) hne).trans (h1.block b hb hne)⟩
  have hln : (rows.eraseIdx i).length = rows.length - 1 := List.length_eraseIdx_of_lt hi
  have hfin : OwnT T base W2 (.slice (some ⟨g, 0, none⟩) (rows.length - 1) cap) (rows.eraseIdx i) := by
    have hsm : Same (RgT T w (.slice (some ⟨g, 0, none⟩) rows.length cap)) w W2 := fun b hb hbs => hgr.block b hb hbs.2.2
    have hrg : ∀ b, RgT T w (.slice (some ⟨g, 0, none⟩) rows.length cap) b → RgT T W2 (.slice (some ⟨g, 0, none⟩) (rows.eraseIdx i).length cap) b := fun b hb => ⟨hb.1, Nat.lt_of_lt_of_le hb.2.1 hgr.size, hb.2.2⟩
    have hdd : Dec 2 (dRow (RgT T W2 (.slice (some ⟨g, 0, none⟩) (rows.eraseIdx i).length cap))) W2 (L.take (i * 2) ++ L.drop ((i + 1) * 2)) (rows.eraseIdx i) := by
      rw [eraseIdx_td]
      rw [eraseIdx_td] at hrg
      exact Dec.append ((hd.take (by omega)).dmono fun cs y h => dRow.mono hrg (dRow.stable _ _ _ _ _ hsm h)) ((hd.drop (by omega)).dmono fun cs y h => dRow.mono hrg (dRow.stable _ _ _ _ _ hsm h))
    rw [← hln]
    refine OwnT.ofCells hgW2 hbg (by omega) hm (by rw [lay_length (by rw [hl1, hs]; simp; omega), hl1, hs]) ?_ hdd
    rw [hln, lay_take (by rw [hl1, hs]; omega), lay, List.append_assoc, ← List.append_assoc, List.take_append_of_le_length (by simp only [List.length_append, List.length_take, hdl]; omega), List.take_of_length_le (by simp only [List.length_append, List.length_take, hdl]; omega)]
    congr 1
    rw [← hL, List.take_take, Nat.min_eq_left (by omega)]
  obtain ⟨i0, hi0, hz0, hzs, hzb⟩ := info_parts Try.infoRow
  have HF := Lib.hid hfin; have Hgr := Lib.hid hgr; have Hcl := Lib.hid hcl; have Hsp := Lib.hid hsp; have H1 := Lib.hid (fun u (hu : u ∈ L.drop ((i + 1) * 2)) => h1L u (List.mem_of_mem_drop hu)); have Hdl := Lib.hid hdl; have HW := Lib.hid hW1
  have hlt63 : cap ≤ 9223372036854775807 := by simp only [maxLen] at hm; omega
  clear hfin hgr hcl hsp h1L hdl hW1 hgW1 hgW2 hW2 hcs hcg hd hL hg ho hs hm hLl hl1
  have hic : i ≤ cap := by omega
  have hjc : i + 1 ≤ cap := by omega
  have hw1 : IntKind.i64.wrap ((i : Int) + 1) = (i : Int) + 1 := by rw [IntKind.wrap_i64]; omega
  have htn : ((i : Int) + 1).toNat = i + 1 := by omega
  have hne : ¬ (i : Int) = (i : Int) + 1 := by omega
  have hb1 : (0 : Int) ≤ (i : Int) + 1 := by omega
  have hb2 : (i : Int) + 1 ≤ (rows.length : Int) := by omega
  go_enter Try.func155, Try.ntmps155
  go_wp2
  go_region_law (refine step_append_room rfl _ _ 96 rfl 162 i0 2 Try.underlying96 hi0 hzs g 0 i cap (by simp [Act.eval, Act.put]) A (rows.length - (i + 1)) (cap - (i + 1)) _ (by simp [Act.eval, Act.put]) Hdl.out hsrc.out H1.out (by omega) Hsp.out ?_; rw [← HW.out])
  all_goals
    have hcl := fun ty => Hcl.out ((i + (rows.length - (i + 1))) * 2) (rows.length - (i + (rows.length - (i + 1)))) ty (cap - (i + (rows.length - (i + 1)))) (by omega) (by omega)
    go_wp2
    go_ret
    have e : i + (rows.length - (i + 1)) = rows.length - 1 := by omega
    exact ⟨by rw [e]; rfl, HF.out, Hgr.out⟩
end Go.Proofs.Ytkjgddcjhikdgaa

/- The contract of profile.drop. -/
namespace Go.Proofs.Ytkjgddcjhikdgaa
open Go Go.RowKit Go.Shelf

theorem set_eraseIdx {α : Type} : ∀ (l : List α) (i : Nat) (x : α), (l.set i x).eraseIdx i = l.eraseIdx i
  | [], _, _ => rfl
  | _ :: _, 0, _ => rfl
  | a :: l, i + 1, x => by simp [set_eraseIdx l i x]
set_option maxHeartbeats 4000000 in
set_option maxRecDepth 100000 in
theorem profDrop_no (T Tm : Nat → Prop) (base g : Nat) (c k : Int) (rv mv : Value) (rows : List Row) (m : List Int) (n : Int) (w : World)
    (hg : w.heap[g]? = some (.cells #[.int .i64 c, .int .u8 k, rv] 98 (0, 0))) (ho : OwnT T base w rv rows) (hk : 0 ≤ k ∧ k ≤ 255) (ha : Asc rows) (hm : RInts Tm w mv m) (hl : rows.length ≤ 1000)
    (hno : ¬ (isR rows m = true ∧ n ≤ cnt rows m)) :
    Calls Try.prog 116 #[.pointer (some ⟨g, 0, none⟩), mv, .int .i64 n] w fun e w' => e = .returned (.bool false) ∧ Below w.heap.size w w' := by
  have hP := profPlace Any Tm _ mv ⟨c, k, rows⟩ m w (show VProf Any w (.agg #[.int .i64 c, .int .u8 k, rv]) ⟨c, k, rows⟩ from by
    obtain ⟨a, cap, rfl⟩ := ho.shape
    exact ⟨a, cap, rfl, hk.1, hk.2, ho.rsl (by show rows.length ≤ _; omega)⟩) hm ha
  simp only at hP
  obtain ⟨a2, cap2, rfl, -, -⟩ := RSl.shape hm
  obtain ⟨-, kb, fb⟩ := own_box (Below.refl _ w) (size_of_box hg) hg
  have hgs := size_of_box hg
  cases his : isR rows m
  · rw [his] at hP
    obtain ⟨a, cap, rfl⟩ := ho.shape
    have HP := Lib.hid hP
    clear hP his ho hm hg ha hno
    go_enter Try.func116, Try.ntmps116
    go_wp2_with (go_at_call 153; refine HP.out.mono ?_; rintro e w1 ⟨rfl, hb1⟩)
    go_ret
    exact ⟨rfl, hb1⟩
  · rw [his] at hP
    obtain ⟨hp, hpm⟩ := isR_iff.1 his
    have hz : rows[posR rows m].many < n := by
      have := cnt_is hp hpm
      rcases Int.lt_or_le rows[posR rows m].many n with h | h
      · exact h
      · exact absurd ⟨his, by rw [this]; exact h⟩ hno
    obtain ⟨a, cap, rfl⟩ := ho.shape
    obtain ⟨gr, c0, d0, rfl, hgr1, hgr2, hc0, hd0, hfr, hx⟩ := Own.at2 ho hp
    obtain ⟨a3, cap3, rfl, rfl, hl3, hw3, hI3⟩ := hx.open
    obtain ⟨z, hzz⟩ : ∃ z, rows[posR rows m].many = z := ⟨_, rfl⟩
    rw [hzz] at hz
    obtain ⟨pp, hpp⟩ : ∃ pp, posR rows m = pp := ⟨_, rfl⟩
    have hkc : ∀ w1, Below w.heap.size w w1 → (∀ i, w1.cell? ⟨g, i, none⟩ = (#[.int .i64 c, .int .u8 k, .slice (some ⟨gr, 0, none⟩) rows.length cap] : Array Value)[i]?) ∧ w1.cell? ⟨gr, posR rows m * 2 + 1, none⟩ = some (.int .i64 z) := fun w1 hb1 =>
      ⟨(own_box hb1 (size_of_box hg) hg).2.1, by rw [← hzz]; exact (Same.of_below (S := Any) hb1).cell trivial hd0⟩
    simp only [hpp] at hP hkc hp
    have HP := Lib.hid hP; have Hkc := Lib.hid hkc
    clear hP hkc his hpm hno hx hI3 ho hm hg hc0 hd0 hw3 hl3 hfr ha hpp hzz
    go_enter Try.func116, Try.ntmps116
    go_wp2_with (go_at_call 153; refine HP.out.mono ?_; rintro e w1 ⟨rfl, hb1⟩; obtain ⟨k1, k2⟩ := Hkc.out w1 hb1)
    go_ret
    exact ⟨rfl, hb1⟩
/-- What drop gives. -/
def DropGives (T : Nat → Prop) (base g : Nat) (c k : Int) (rows : List Row) (w : World) (e : Ending) (w' : World) : Prop :=
  e = .returned (.bool true) ∧ ∃ a n cap, w'.heap[g]? = some (.cells #[.int .i64 c, .int .u8 k, .slice a n cap] 98 (0, 0)) ∧ OwnT T base w' (.slice a n cap) rows ∧ PutFrame g base w w'
set_option maxHeartbeats 4000000 in
set_option maxRecDepth 100000 in
theorem profDrop_yes (T Tm : Nat → Prop) (base g : Nat) (c k : Int) (rv mv : Value) (rows : List Row) (m : List Int) (n : Int) (w : World)
    (hg : w.heap[g]? = some (.cells #[.int .i64 c, .int .u8 k, rv] 98 (0, 0))) (hgb : g < base) (hbw : base ≤ w.heap.size) (ho : OwnT T base w rv rows) (hTg : ¬ T g) (hk : 0 ≤ k ∧ k ≤ 255) (ha : Asc rows) (hm : RInts Tm w mv m) (hl : rows.length ≤ 1000)
    (hwf : ∀ r ∈ rows, 0 < r.many ∧ r.many ≤ 1000000) (hn : 1 ≤ n) (his : isR rows m = true) (hle : n ≤ cnt rows m) :
    Calls Try.prog 116 #[.pointer (some ⟨g, 0, none⟩), mv, .int .i64 n] w (DropGives T base g c k (dropR rows m n) w) := by
  obtain ⟨hp, hpm⟩ := isR_iff.1 his
  have hdrop := dropR_pos n hp hpm
  have hP := profPlace Any Tm _ mv ⟨c, k, rows⟩ m w (show VProf Any w (.agg #[.int .i64 c, .int .u8 k, rv]) ⟨c, k, rows⟩ from by
    obtain ⟨a, cap, rfl⟩ := ho.shape
    exact ⟨a, cap, rfl, hk.1, hk.2, ho.rsl (by show rows.length ≤ _; omega)⟩) hm ha
  simp only at hP
  rw [his] at hP
  obtain ⟨a, cap, rfl⟩ := ho.shape
  obtain ⟨a2, cap2, rfl, -, -⟩ := RSl.shape hm
  obtain ⟨gr, c0, d0, rfl, hgr1, hgr2, hc0, hd0, hfr, hx⟩ := Own.at2 ho hp
  obtain ⟨a3, cap3, rfl, rfl, hl3, hw3, hI3⟩ := hx.open
  obtain ⟨-, kb, fb⟩ := own_box (Below.refl _ w) (size_of_box hg) hg
  have hmw := hwf _ (List.getElem_mem hp)
  rw [cnt_is hp hpm] at hle
  obtain ⟨z, hz⟩ : ∃ z, rows[posR rows m].many = z := ⟨_, rfl⟩
  have hgne : gr ≠ g := by omega
  have hkc : ∀ w1, Below w.heap.size w w1 → (∀ i, w1.cell? ⟨g, i, none⟩ = (#[.int .i64 c, .int .u8 k, .slice (some ⟨gr, 0, none⟩) rows.length cap] : Array Value)[i]?) ∧ w1.cell? ⟨gr, posR rows m * 2 + 1, none⟩ = some (.int .i64 z) ∧ w1.frozen? ⟨gr, posR rows m * 2 + 1, none⟩ = false := fun w1 hb1 =>
    ⟨(own_box hb1 (size_of_box hg) hg).2.1, by rw [← hz]; exact (Same.of_below (S := Any) hb1).cell trivial hd0, (hb1.frozen hgr2).trans (hfr _)⟩
  have hbox : ∀ w1 v, Below w.heap.size w w1 → (w1.setCell ⟨gr, posR rows m * 2 + 1, none⟩ v).heap[g]? = some (.cells #[.int .i64 c, .int .u8 k, .slice (some ⟨gr, 0, none⟩) rows.length cap] 98 (0, 0)) := fun w1 v hb1 => (Below.heap_setCell _ _ _ _ (by simp; omega)).trans ((hb1.block g (by omega)).trans hg)
  have hfr1 : ∀ w1 v, Below w.heap.size w w1 → PutFrame g base w (w1.setCell ⟨gr, posR rows m * 2 + 1, none⟩ v) := fun w1 v hb1 => (putFrame_below hb1 hbw).trans (putFrame_set _ _ _ _ (.inr hgr1))
  by_cases hzn : z = n
  · -- the row goes
    subst hzn
    have hD : ∀ w1, Below w.heap.size w w1 → Calls Try.prog 155 #[.slice (some ⟨gr, 0, none⟩) rows.length cap, .int .i64 (posR rows m), .int .i64 ((posR rows m : Int) + 1)] (w1.setCell ⟨gr, posR rows m * 2 + 1, none⟩ (.int .i64 0)) fun e w' => e = .returned (.slice (some ⟨gr, 0, none⟩) (rows.length - 1) cap) ∧ OwnT T base w' (.slice (some ⟨gr, 0, none⟩) (rows.length - 1) cap) (dropR rows m z) ∧ (w1.setCell ⟨gr, posR rows m * 2 + 1, none⟩ (.int .i64 0)).grownBy w' (some gr) := fun w1 hb1 => by
      have h1 := (ho.below hb1).setMany hp (m := 0) (by decide)
      have hls : (rows.set (posR rows m) ⟨rows[posR rows m].marks, 0⟩).length = rows.length := List.length_set
      have := delRows T base gr cap (posR rows m) (rows.set (posR rows m) ⟨rows[posR rows m].marks, 0⟩) _ (by rw [hls]; exact h1) (by rw [hls]; exact hp) (by rw [hls]; exact hl)
      rw [hls, set_eraseIdx] at this
      rw [hdrop, if_pos hz]
      exact this
    have hFin : ∀ w1 w3, Below w.heap.size w w1 → OwnT T base w3 (.slice (some ⟨gr, 0, none⟩) (rows.length - 1) cap) (dropR rows m z) → (w1.setCell ⟨gr, posR rows m * 2 + 1, none⟩ (.int .i64 0)).grownBy w3 (some gr) →
        ((∀ i, w3.cell? ⟨g, i, none⟩ = (#[.int .i64 c, .int .u8 k, .slice (some ⟨gr, 0, none⟩) rows.length cap] : Array Value)[i]?) ∧ (∀ i, w3.frozen? ⟨g, i, none⟩ = false) ∧ g < w3.heap.size) ∧ DropGives T base g c k (dropR rows m z) w (.returned (.bool true)) (w3.setCell ⟨g, 2, none⟩ (.slice (some ⟨gr, 0, none⟩) (rows.length - 1) cap)) := fun w1 w3 hb1 ho3 hg3 => by
      have hz1 := hb1.size
      have e : w3.heap[g]? = some (.cells #[.int .i64 c, .int .u8 k, .slice (some ⟨gr, 0, none⟩) rows.length cap] 98 (0, 0)) := (hg3.block g (by rw [size_setCell']; omega) (fun e => hgne (by injection e with e; exact e.symm))).trans (hbox w1 _ hb1)
      refine ⟨⟨(own_box (Below.refl _ w3) (size_of_box e) e).2.1, (own_box (Below.refl _ w3) (size_of_box e) e).2.2, size_of_box e⟩, rfl, _, _, _, heap_setCell_at e _, ho3.setCell hTg (fun e => hgne (by injection e with e; exact e.symm)) _ _, ?_⟩
      exact ((hfr1 w1 _ hb1).trans (putFrame_grown hg3 (fun b hb => by injection hb with hb; omega) (by rw [size_setCell']; omega))).trans (putFrame_set _ _ _ _ (.inl rfl))
    obtain ⟨pp, hpp⟩ : ∃ pp, posR rows m = pp := ⟨_, rfl⟩
    simp only [hpp] at hP hFin hkc hp hD
    have HP := Lib.hid hP; have HFin := Lib.hid hFin; have Hkc := Lib.hid hkc; have HD := Lib.hid hD
    have hgb2 : g ≠ gr := fun e => hgne e.symm
    clear hP hFin hkc hD hpm hdrop his hx hI3 ho hm hg hwf hc0 hd0 hw3 hl3 hfr ha hbox hfr1 hle hTg
    simp only [hz] at hmw
    clear hz hpp
    have hw1 : IntKind.i64.wrap ((pp : Int) + 1) = (pp : Int) + 1 := by rw [IntKind.wrap_i64]; omega
    go_enter Try.func116, Try.ntmps116
    go_wp2_with (first
      | (go_at_call 153; refine HP.out.mono ?_; rintro e w1 ⟨rfl, hb1⟩; obtain ⟨k1, k2, k3⟩ := Hkc.out w1 hb1)
      | (go_at_call 155; refine (HD.out w1 hb1).mono ?_; rintro e w3 ⟨rfl, ho3, hg3⟩; obtain ⟨⟨j1, j2, j3⟩, hf⟩ := HFin.out w1 w3 hb1 ho3 hg3; have HF := Lib.hid hf; clear ho3 hg3 hf k1 k2 k3))
    go_ret
    exact HF.out
  · -- the row stays
    have hlt : n < z := by omega
    have hFin : ∀ w1, Below w.heap.size w w1 → DropGives T base g c k (dropR rows m n) w (.returned (.bool true)) (w1.setCell ⟨gr, posR rows m * 2 + 1, none⟩ (.int .i64 (z - n))) := fun w1 hb1 => by
      have h1 := (ho.below hb1).setMany hp (m := z - n) (by simp [Lit.wf, IntKind.min, IntKind.max, IntKind.bits, IntKind.signed]; omega)
      rw [hdrop, if_neg (by omega)]
      refine ⟨rfl, _, _, _, hbox w1 _ hb1, ?_, hfr1 w1 _ hb1⟩
      rw [hz]
      rwa [hpm] at h1
    obtain ⟨pp, hpp⟩ : ∃ pp, posR rows m = pp := ⟨_, rfl⟩
    simp only [hpp] at hP hFin hkc hp
    have HP := Lib.hid hP; have HFin := Lib.hid hFin; have Hkc := Lib.hid hkc
    have hgb2 : g ≠ gr := fun e => hgne e.symm
    clear hP hFin hkc hpm hdrop his hx hI3 ho hm hg hwf hc0 hd0 hw3 hl3 hfr ha hbox hfr1 hle hTg
    simp only [hz] at hmw
    clear hz hpp hzn
    have hne0 : ¬ (z - n = 0) := by omega
    have hne1 : (z - n == 0) = false := by simpa using hne0
    go_enter Try.func116, Try.ntmps116
    go_wp2_with (go_at_call 153; refine HP.out.mono ?_; rintro e w1 ⟨rfl, hb1⟩; obtain ⟨k1, k2, k3⟩ := Hkc.out w1 hb1)
    go_ret
    exact HFin.out w1 hb1
end Go.Proofs.Ytkjgddcjhikdgaa

/- The contract of profile.Take. -/
namespace Go.Proofs.Ytkjgddcjhikdgaa
open Go Go.RowKit Go.Shelf

set_option maxHeartbeats 4000000 in
set_option maxRecDepth 100000 in
theorem profTake (S S2 : Nat → Prop) (v u : Value) (p : Prof) (b : Blt) (n : Int) (w : World) (h : VProf S w v p) (hu : VBlt S2 w u b) :
    Calls Try.prog 64 #[v, u, .int .i64 n] w (ProfGives (Cut S w.heap.size) (takeI p b n) (takeV p b n) w) := by
  have h0 := h
  have hu0 := hu
  obtain ⟨a1, c1, rfl, hk1, hk2, hR⟩ := h
  obtain ⟨cc, dd, rfl, hD⟩ := hu
  obtain ⟨a2, c2, rfl, rfl, hl2, -, -, hI2⟩ := hD.open
  obtain ⟨W0, hW0⟩ : ∃ W0, W0 = ((w.alloc (.cells #[.int .i64 p.cands, .int .u8 p.kind, .slice a1 p.rows.length c1] 98)).alloc (.cells #[.int .u8 b.kind, .slice a2 b.marks.length c2] 25)).alloc (.cells #[.int .i64 0, .int .u8 0, .slice none 0 0] 98) := ⟨_, rfl⟩
  have hb0 : Below w.heap.size w W0 := by rw [hW0]; exact ((below_new w _).alloc (by simp) _).alloc (by simp; omega) _
  have hz0 : W0.heap.size = w.heap.size + 3 := by rw [hW0]; simp
  have g0 : W0.heap[w.heap.size]? = some (.cells #[.int .i64 p.cands, .int .u8 p.kind, .slice a1 p.rows.length c1] 98 (0, 0)) := by rw [hW0]; exact box_old _ (box_old _ (box_new _ _))
  have g1 : W0.heap[w.heap.size + 1]? = some (.cells #[.int .u8 b.kind, .slice a2 b.marks.length c2] 25 (0, 0)) := by
    rw [hW0]
    have := box_new (w.alloc (.cells #[.int .i64 p.cands, .int .u8 p.kind, .slice a1 p.rows.length c1] 98)) (.cells #[.int .u8 b.kind, .slice a2 b.marks.length c2] 25)
    rw [World.size_alloc] at this
    exact box_old _ this
  have g2 : W0.heap[w.heap.size + 2]? = some (.cells #[.int .i64 0, .int .u8 0, .slice none 0 0] 98 (0, 0)) := by
    rw [hW0]
    have := box_new ((w.alloc (.cells #[.int .i64 p.cands, .int .u8 p.kind, .slice a1 p.rows.length c1] 98)).alloc (.cells #[.int .u8 b.kind, .slice a2 b.marks.length c2] 25)) (.cells #[.int .i64 0, .int .u8 0, .slice none 0 0] 98)
    rwa [World.size_alloc, World.size_alloc] at this
  have hM := profMay S S2 _ _ p b n W0 (h0.same (.of_below hb0)) (hu0.same (.of_below hb0))
  have hKK := fun W (hW : Below W0.heap.size W0 W) => And.intro (own_box hW (by omega) g0) (And.intro (own_box hW (by omega) g1) (own_box hW (by omega) g2))
  by_cases hmay : mayP p b n = 0
  case neg =>
    have hI : takeI p b n = mayP p b n := by rw [takeI, if_pos hmay]
    have hV : takeV p b n = noP := by rw [takeV, hI, if_neg hmay]
    have hG := fun w' (hb : Below w.heap.size w w') => ProfGives.none (S := Cut S w.heap.size) (I := mayP p b n) hb
    rw [hI, hV]
    have hq : (mayP p b n != 0) = true := by simpa using hmay
    generalize mayP p b n = I at *
    have HM := Lib.hid hM; have HKK := Lib.hid hKK; have HG := Lib.hid hG
    clear hM hKK hG hI hV hmay g0 g1 g2 hD hR h0 hu0 hI2
    subst hW0
    go_enter Try.func64, Try.ntmps64
    go_wp2_with (go_at_call 115; refine HM.out.mono ?_; rintro e w1 ⟨rfl, hb1⟩; obtain ⟨⟨q0, k0, f0⟩, ⟨q1, k1, f1⟩, ⟨q2, k2, f2⟩⟩ := HKK.out _ hb1; have hlt2 := size_of_box q2)
    exact bodyPost_ret (v := .tuple #[.agg #[.int .i64 0, .int .u8 0, .slice none 0 0], .int .i64 I]) (by simp [results, Try.results64, go_sem, k2]) rfl (HG.out _ ((((hb0.trans (hb1.mono (by simp; omega))).setCell (p := ⟨w.heap.size + 2, 0, none⟩) (by simp) _).setCell (p := ⟨w.heap.size + 2, 1, none⟩) (by simp) _).setCell (p := ⟨w.heap.size + 2, 2, none⟩) (by simp) _))
  obtain ⟨hv, hkb, hcb, hn1⟩ := mayP_zero hmay
  have hR1 : RRows (Cut S w.heap.size) w (.slice a1 p.rows.length c1) p.rows := hR.cut
  have hT := fun W (hW : Below w.heap.size w W) => profTwin (Cut S w.heap.size) a1 c1 p W (hR1.same (fun b _ hs => hW.block b hs.2)) (fun b hb => by have := hb.2; have := hW.size; omega) hv.rows hv.marks
  have hIm : RInts (Cut S2 w.heap.size) w (.slice a2 b.marks.length c2) b.marks := RSl.cut (by omega) (fun _ _ h => h) hI2
  have hTw := fun w1 rv w2 (h1 : Below w.heap.size w w1) hz hg h2 ho => held_twin (c := p.cands) (k := p.kind) (rows := p.rows) (rv := rv) (w := w) (w1 := w1) (w2 := w2) (S := Cut S w.heap.size) (x := .slice a1 p.rows.length c1) rfl (fun b hb => hb.2) h1 hz hg h2 ho
  have hG6 : ∀ (e : Nat) (w2 w4 : World) (x y z : Value), w.heap.size + 2 < e → w2.heap[w.heap.size + 2]? = some (.cells #[.int .i64 0, .int .u8 0, .slice none 0 0] 98 (0, 0)) → PutFrame w.heap.size e (((w2.setCell ⟨w.heap.size, 0, none⟩ x).setCell ⟨w.heap.size, 1, none⟩ y).setCell ⟨w.heap.size, 2, none⟩ z) w4 →
      w4.heap[w.heap.size + 2]? = some (.cells #[.int .i64 0, .int .u8 0, .slice none 0 0] 98 (0, 0)) := fun e w2 w4 x y z he h2 hf =>
    (hf.2.2.2.2 _ he (by omega)).trans ((Below.heap_setCell _ _ _ _ (by simp)).trans ((Below.heap_setCell _ _ _ _ (by simp)).trans ((Below.heap_setCell _ _ _ _ (by simp)).trans h2)))
  rw [hmay] at hM
  by_cases hyes : isR p.rows b.marks = true ∧ n ≤ cnt p.rows b.marks
  · have hI : takeI p b n = 0 := by rw [takeI, if_neg (by rw [hmay]; simp), if_pos hyes]
    have hV : takeV p b n = ⟨p.cands, p.kind, dropR p.rows b.marks n⟩ := by rw [takeV, if_pos hI]
    have hplen : (dropR p.rows b.marks n).length ≤ 1000 := by have := dropR_len p.rows b.marks n; have := hv.rows; omega
    have hDr := fun e a cap W (hW : Held (Cut S w.heap.size) w.heap.size e p.cands p.kind p.rows a p.rows.length cap w W) (he : w.heap.size < e) =>
      profDrop_yes (TT (Cut S w.heap.size) e) (Cut S2 w.heap.size) e w.heap.size p.cands p.kind _ (.slice a2 b.marks.length c2) p.rows b.marks n W hW.box he hW.size hW.own (fun h => by rcases h with h | h; exact absurd h.2 (by omega); omega) ⟨hk1, hk2⟩ hv.asc
        (hIm.same (fun b _ hs => hW.below.block b hs.2)) (by have := hv.rows; omega) (fun r hr => hv.many r hr) hn1 hyes.1 hyes.2
    have hB6 : ∀ e a n' cap w3 w4, Held (Cut S w.heap.size) w.heap.size e p.cands p.kind p.rows a n' cap w w3 → w.heap.size + 2 < e → ∀ a' n'' cap', w4.heap[w.heap.size]? = some (.cells #[.int .i64 p.cands, .int .u8 p.kind, .slice a' n'' cap'] 98 (0, 0)) → OwnT (TT (Cut S w.heap.size) e) e w4 (.slice a' n'' cap') (dropR p.rows b.marks n) → PutFrame w.heap.size e w3 w4 →
        Held (Cut S w.heap.size) w.heap.size e p.cands p.kind (dropR p.rows b.marks n) a' n'' cap' w w4 := fun e a n' cap w3 w4 h3 he a' n'' cap' hb ho hf => ⟨hb, ho, h3.below.trans (hf.under (Nat.le_refl _) (by omega)), by have := hf.2.2.2.1; have := h3.size; omega⟩
    have hEnd := fun e a n' cap W W5 (hW : Held (Cut S w.heap.size) w.heap.size e p.cands p.kind (dropR p.rows b.marks n) a n' cap w W) (he : w.heap.size + 2 < e) hb => hW.end (W5 := W5) rfl (fun b hb => hb.2) ⟨hk1, hk2⟩ hplen hb (w.heap.size + 2) (by omega)
    rw [hI, hV]
    obtain ⟨RR, hRR⟩ : ∃ RR, dropR p.rows b.marks n = RR := ⟨_, rfl⟩
    simp only [hRR] at hDr hB6 hEnd
    rw [hRR]
    have HM := Lib.hid hM; have HKK := Lib.hid hKK; have HT := Lib.hid hT; have HDr := Lib.hid hDr; have HB6 := Lib.hid hB6; have HG6 := Lib.hid hG6; have HTw := Lib.hid hTw; have HEnd := Lib.hid hEnd
    have HB0 := Lib.hid hb0; have HZ0 := Lib.hid hz0
    clear hM hKK hT hDr hB6 hG6 hTw hEnd hI hV hb0 hz0 g0 g1 g2 hD hR hR1 h0 hu0 hI2 hIm hv hkb hcb hRR hmay hplen hyes
    subst hW0
    go_enter Try.func64, Try.ntmps64
    go_wp2_with (first
      | (go_at_call 115; refine HM.out.mono ?_; rintro e w1 ⟨rfl, hb1⟩; obtain ⟨⟨q0, k0, f0⟩, ⟨q1, k1, f1⟩, ⟨q2, k2, f2⟩⟩ := HKK.out _ hb1; have hlt2 := size_of_box q2; have hq1 := HB0.out.trans (hb1.mono (by simp; omega)); have hz1 : w.heap.size + 2 < w1.heap.size := hlt2)
      | (go_at_call 110; refine (HT.out w1 hq1).mono ?_; rintro e w2 ⟨rv, rfl, ho2, hb2⟩; have hH := HTw.out w1 rv w2 hq1 hz1 q0 hb2 ho2; obtain ⟨a3, cap3, rfl, hH3⟩ := hH; obtain ⟨p0, j0, l0⟩ := own_box hb2 (size_of_box q0) q0; obtain ⟨p1, j1, l1⟩ := own_box hb2 (size_of_box q1) q1; obtain ⟨p2, j2, l2⟩ := own_box hb2 (size_of_box q2) q2; have HH3 := Lib.hid hH3; have hlt20 := size_of_box p0; have hlt21 := size_of_box p1; have Hp2 := Lib.hid p2; clear hH3 ho2)
      | (go_at_call 116; refine (HDr.out _ a3 cap3 _ HH3.out (by omega)).mono ?_; rintro e w4 ⟨rfl, a4, n4, cap4, hb4, ho4, hf4⟩; have hH4 := HB6.out _ _ _ _ _ _ HH3.out hz1 _ _ _ hb4 ho4 hf4; have g6 := HG6.out _ _ _ _ _ _ hz1 Hp2.out hf4; obtain ⟨-, j3, -⟩ := own_box (Below.refl _ w4) (size_of_box hb4) hb4; have hlt4 := size_of_box g6; obtain ⟨-, j6, l6⟩ := own_box (Below.refl _ w4) (size_of_box g6) g6; have HE := Lib.hid (HEnd.out _ _ _ _ _ _ hH4 hz1 (Below.refl _ w4)); clear hH4 ho4 hf4 g6))
    exact bodyPost_ret (v := .tuple #[.agg #[.int .i64 p.cands, .int .u8 p.kind, .slice a4 n4 cap4], .int .i64 0]) (by simp [results, Try.results64, go_sem, j6]) rfl ⟨_, rfl, (HE.out _ _ _).1, (HE.out _ _ _).2⟩
  · have hI : takeI p b n = 6 := by rw [takeI, if_neg (by rw [hmay]; simp), if_neg hyes]
    have hV : takeV p b n = noP := by rw [takeV, hI, if_neg (by omega)]
    have hDr := fun e a cap W (hW : Held (Cut S w.heap.size) w.heap.size e p.cands p.kind p.rows a p.rows.length cap w W) (he : w.heap.size < e) =>
      profDrop_no (TT (Cut S w.heap.size) e) (Cut S2 w.heap.size) e w.heap.size p.cands p.kind _ (.slice a2 b.marks.length c2) p.rows b.marks n W hW.box hW.own ⟨hk1, hk2⟩ hv.asc
        (hIm.same (fun b _ hs => hW.below.block b hs.2)) (by have := hv.rows; omega) hyes
    have hz3 : ∀ (w2 : World) (x y z : Value), w2.heap[w.heap.size + 2]? = some (.cells #[.int .i64 0, .int .u8 0, .slice none 0 0] 98 (0, 0)) → (((w2.setCell ⟨w.heap.size, 0, none⟩ x).setCell ⟨w.heap.size, 1, none⟩ y).setCell ⟨w.heap.size, 2, none⟩ z).heap[w.heap.size + 2]? = some (.cells #[.int .i64 0, .int .u8 0, .slice none 0 0] 98 (0, 0)) := fun w2 x y z h2 =>
      (Below.heap_setCell _ _ _ _ (by simp)).trans ((Below.heap_setCell _ _ _ _ (by simp)).trans ((Below.heap_setCell _ _ _ _ (by simp)).trans h2))
    rw [hI, hV]
    have HM := Lib.hid hM; have HKK := Lib.hid hKK; have HT := Lib.hid hT; have HDr := Lib.hid hDr; have HTw := Lib.hid hTw; have Hz3 := Lib.hid hz3
    have HB0 := Lib.hid hb0; have HZ0 := Lib.hid hz0
    clear hM hKK hT hDr hG6 hTw hI hV hb0 hz0 g0 g1 g2 hD hR hR1 h0 hu0 hI2 hIm hv hkb hcb hmay hyes hz3
    subst hW0
    go_enter Try.func64, Try.ntmps64
    go_wp2_with (first
      | (go_at_call 115; refine HM.out.mono ?_; rintro e w1 ⟨rfl, hb1⟩; obtain ⟨⟨q0, k0, f0⟩, ⟨q1, k1, f1⟩, ⟨q2, k2, f2⟩⟩ := HKK.out _ hb1; have hlt2 := size_of_box q2; have hq1 := HB0.out.trans (hb1.mono (by simp; omega)); have hz1 : w.heap.size + 2 < w1.heap.size := hlt2)
      | (go_at_call 110; refine (HT.out w1 hq1).mono ?_; rintro e w2 ⟨rv, rfl, ho2, hb2⟩; have hH := HTw.out w1 rv w2 hq1 hz1 q0 hb2 ho2; obtain ⟨a3, cap3, rfl, hH3⟩ := hH; obtain ⟨p0, j0, l0⟩ := own_box hb2 (size_of_box q0) q0; obtain ⟨p1, j1, l1⟩ := own_box hb2 (size_of_box q1) q1; obtain ⟨p2, j2, l2⟩ := own_box hb2 (size_of_box q2) q2; have HH3 := Lib.hid hH3; have hlt20 := size_of_box p0; have hlt21 := size_of_box p1; have Hp2 := Lib.hid p2; clear hH3 ho2)
      | (go_at_call 116; refine (HDr.out _ a3 cap3 _ HH3.out (by omega)).mono ?_; rintro e w4 ⟨rfl, hb4⟩; obtain ⟨q6, j6, l6⟩ := own_box hb4 (size_of_box (Hz3.out _ _ _ _ Hp2.out)) (Hz3.out _ _ _ _ Hp2.out); have hlt6 := size_of_box q6; have hb7 := HH3.out.below.trans (hb4.mono (HH3.out.below.size)); clear q6))
    exact bodyPost_ret (v := .tuple #[.agg #[.int .i64 0, .int .u8 0, .slice none 0 0], .int .i64 6]) (by simp [results, Try.results64, go_sem, j6]) rfl (ProfGives.none (((hb7.setCell (p := ⟨w.heap.size + 2, 0, none⟩) (by simp) _).setCell (p := ⟨w.heap.size + 2, 1, none⟩) (by simp) _).setCell (p := ⟨w.heap.size + 2, 2, none⟩) (by simp) _))
end Go.Proofs.Ytkjgddcjhikdgaa

/- The walk of the law RecordGrows. -/
namespace Go.Proofs.Ytkjgddcjhikdgaa
open Go Go.RowKit Go.Shelf

/-- A region is drawn whose world has a name. -/
theorem at_ok {X : List Btc} {c kind : Int} (hx0 : recCheck X c kind = 0) (hXs : Small X) {k j : Nat} {y : Blt} (hk : k < X.length) (hj : j < X[k].blts.length) (hy : X[k].blts[j] = y) (v : Value) (w : World) (h : RBtcs Any w v X) :
    Calls Try.prog 36 #[v, .int .i64 c, .int .u8 kind, .int .i64 k, .int .i64 j] w fun e w' => ∃ a cc, e = .returned (.tuple #[.agg #[.int .u8 y.kind, .slice a y.marks.length cc], .int .i64 0]) ∧ VBlt Any w' (.agg #[.int .u8 y.kind, .slice a y.marks.length cc]) y ∧ Below w.heap.size w w' := by
  have h1 := hXs.1
  have h2 := (hXs.2 _ (List.getElem_mem hk)).1
  refine (recordAt Any v X c kind k j w h hXs (by omega) (by omega)).mono ?_
  rintro e w' ⟨u, he, hu, hb⟩
  obtain ⟨e1, e2⟩ := atAt_some hk hj
  have e3 : answAt X c kind k j = 0 := by rw [answAt, if_pos hx0]; exact e1
  have e4 : bltAt X c kind k j = y := by rw [bltAt, if_pos hx0, e2, hy]
  rw [e3] at he
  rw [e4] at hu
  have hu2 := WBlt.toV hu
  obtain ⟨c1, d1, rfl, hd⟩ := hu2
  obtain ⟨a, cap, rfl, rfl, -, -, -, -⟩ := hd.open
  exact ⟨a, cap, he, ⟨_, _, rfl, dBlt.mono (fun _ _ => trivial) hd⟩, hb⟩
theorem marks_small {c kind : Int} {b : Blt} (h : fitsB b c kind = true) : b.marks.length ≤ 10 := by
  simp [fitsB] at h
  exact (checkB_marks h.2).1
theorem small_ok {X : List Btc} {c kind : Int} (h : recCheck X c kind = 0) : Small X := by
  obtain ⟨h1, h2, h3, h4, -⟩ := recCheck_ok h
  refine ⟨by omega, fun b hb => ⟨by have := h3 b hb; omega, fun x hx => ?_⟩⟩
  have := h4 b hb
  simp only [mayB, Bool.and_eq_true, Bool.not_eq_true', List.any_eq_false] at this
  have h6 := this.2 x hx
  simp only [Bool.not_eq_false] at h6
  have := marks_small h6
  omega
theorem name_eq {a b : ByteArray} (h : sameName a b = true) : a = b := by
  rw [sameName_eq, decide_eq_true_eq] at h
  cases a; cases b
  congr 1
  exact Array.ext' h
set_option maxHeartbeats 4000000 in
set_option maxRecDepth 100000 in
theorem grows_great (v u : Value) (l : List Btc) (c kind : Int) (nm : ByteArray) (b : Blt) (w : World) (h : RBtcs Any w v l) (hu : VBlt Any w u b) (hg : great l = true ∨ greatBlt b = true ∨ 1000 < nm.size) :
    Calls Try.prog 14 #[v, .int .i64 c, .int .u8 kind, .string nm, u] w fun e w' => e = .returned (.bool true) ∧ Below w.heap.size w w' := by
  have hG := fun W (hW : Below w.heap.size w W) => great26 Any v l W (h.same (.of_below hW))
  have hGb := fun W (hW : Below w.heap.size w W) => great08 Any u b W (hu.same (.of_below hW))
  obtain ⟨a, cap, rfl, -, -⟩ := RSl.shape h
  obtain ⟨cc, dd, rfl, hD⟩ := hu
  obtain ⟨a2, c2, rfl, rfl, hl2, -, -, hI2⟩ := hD.open
  have hb0 := below_new w (.cells #[.int .u8 b.kind, .slice a2 b.marks.length c2] 25)
  have hbx := box_new w (.cells #[.int .u8 b.kind, .slice a2 b.marks.length c2] 25)
  have hXX := fun W (hW : Below (w.alloc (.cells #[.int .u8 b.kind, .slice a2 b.marks.length c2] 25)).heap.size (w.alloc (.cells #[.int .u8 b.kind, .slice a2 b.marks.length c2] 25)) W) => own_box hW (by simp) hbx
  have HXX := Lib.hid hXX
  obtain ⟨g1, hg1⟩ : ∃ g1, great l = g1 := ⟨_, rfl⟩
  obtain ⟨g2, hg2⟩ : ∃ g2, greatBlt b = g2 := ⟨_, rfl⟩
  rw [hg1] at hG hg
  rw [hg2] at hGb hg
  have HG := Lib.hid hG; have HGb := Lib.hid hGb
  clear hG hGb h hD hI2 hXX hbx hg1 hg2 hl2
  have hways : g1 = true ∨ (g1 = false ∧ g2 = true) ∨ (g1 = false ∧ g2 = false ∧ 1000 < nm.size) := by cases g1 <;> cases g2 <;> simp at hg ⊢; exact hg
  clear hg
  rcases hways with rfl | ⟨rfl, rfl⟩ | ⟨rfl, rfl, hn⟩
  all_goals
    go_enter Try.func14, Try.ntmps14
    go_wp2_with (first
      | (go_at_call 58; refine (alive26 _).mono ?_; rintro e w1 ⟨rfl, hb1⟩; have hp1 := belT hb0 hb1 (by simp); have hz1 := hp1.size; have hx1 := hb1)
      | (go_at_call 18; refine (HG.out _ hp1).mono ?_; rintro e w2 ⟨rfl, hb2⟩; have hp2 := belT hp1 hb2 hz1; have hz2 := hp2.size; obtain ⟨q2, k2, -⟩ := HXX.out _ (belT hx1 hb2 hx1.size); have k20 := k2 0; have k21 := k2 1; have hlt2 := size_of_box q2; clear k2 q2)
      | (go_at_call 19; refine (HGb.out _ hp2).mono ?_; rintro e w3 ⟨rfl, hb3⟩; have hp3 := belT hp2 hb3 hz2))
    go_ret
    exact ⟨rfl, by first | exact hp3 | exact hp2⟩
set_option maxHeartbeats 4000000 in
set_option maxRecDepth 100000 in
theorem grows_bad (v u : Value) (l : List Btc) (c kind : Int) (nm : ByteArray) (b : Blt) (w : World) (h : RBtcs Any w v l) (hu : VBlt Any w u b) (hg : great l = false) (hgb : greatBlt b = false) (hnm : ¬ 1000 < nm.size) (hP : putI l c kind nm b ≠ 0) :
    Calls Try.prog 14 #[v, .int .i64 c, .int .u8 kind, .string nm, u] w fun e w' => e = .returned (.bool true) ∧ Below w.heap.size w w' := by
  have hG := fun W (hW : Below w.heap.size w W) => great26 Any v l W (h.same (.of_below hW))
  have hGb := fun W (hW : Below w.heap.size w W) => great08 Any u b W (hu.same (.of_below hW))
  rw [hg] at hG
  rw [hgb] at hGb
  have hbm : b.marks.length ≤ 1000000 := by simp [greatBlt] at hgb; omega
  obtain ⟨I, hI⟩ : ∃ I, putI l c kind nm b = I := ⟨_, rfl⟩
  have hPt := fun W (hW : Below w.heap.size w W) => (put Any v u l c kind nm b W (h.same (.of_below hW)) (hu.same (.of_below hW)) (by omega) (small_of hg) hbm).mono fun e w' (hh : PutGives l c kind nm b W e w') => (show ∃ a cc, e = .returned (.tuple #[.slice a 0 cc, .int .i64 I]) ∧ Below W.heap.size W w' from by
    obtain ⟨x, he, ho, hb⟩ := hh
    rw [hI] at he
    rw [putL_nil hP] at ho
    obtain ⟨a, cc, rfl, -, -⟩ := RSl.shape ho.toR
    exact ⟨a, cc, he, hb⟩)
  rw [hI] at hP
  have hq : (I != 0) = true := by simpa using hP
  obtain ⟨a, cap, rfl, -, -⟩ := RSl.shape h
  obtain ⟨cc, dd, rfl, hD⟩ := hu
  obtain ⟨a2, c2, rfl, rfl, hl2, -, -, hI2⟩ := hD.open
  have hb0 := below_new w (.cells #[.int .u8 b.kind, .slice a2 b.marks.length c2] 25)
  have hbx := box_new w (.cells #[.int .u8 b.kind, .slice a2 b.marks.length c2] 25)
  have hXX := fun W (hW : Below (w.alloc (.cells #[.int .u8 b.kind, .slice a2 b.marks.length c2] 25)).heap.size (w.alloc (.cells #[.int .u8 b.kind, .slice a2 b.marks.length c2] 25)) W) => own_box hW (by simp) hbx
  have HXX := Lib.hid hXX
  have HG := Lib.hid hG; have HGb := Lib.hid hGb; have HPt := Lib.hid hPt
  clear hG hGb hPt h hD hI2 hXX hbx hI hP hl2 hbm hg hgb
  go_enter Try.func14, Try.ntmps14
  go_wp2_with (first
    | (go_at_call 58; refine (alive26 _).mono ?_; rintro e w1 ⟨rfl, hb1⟩; have hp1 := belT hb0 hb1 (by simp); have hz1 := hp1.size; have hx1 := hb1)
    | (go_at_call 18; refine (HG.out _ hp1).mono ?_; rintro e w2 ⟨rfl, hb2⟩; have hp2 := belT hp1 hb2 hz1; have hz2 := hp2.size; have hx2 := belT hx1 hb2 hx1.size; obtain ⟨q2, k2, -⟩ := HXX.out _ hx2; have k20 := k2 0; have k21 := k2 1; have hlt2 := size_of_box q2; clear k2 q2)
    | (go_at_call 19; refine (HGb.out _ hp2).mono ?_; rintro e w3 ⟨rfl, hb3⟩; have hp3 := belT hp2 hb3 hz2; have hz3 := hp3.size; have hx3 := belT hx2 hb3 hx2.size; obtain ⟨q3, k3, -⟩ := HXX.out _ hx3; have k30 := k3 0; have k31 := k3 1; have hlt3 := size_of_box q3; clear k3 q3)
    | (go_at_call 22; refine (HPt.out _ hp3).mono ?_; rintro e w4 ⟨a4, c4, rfl, hb4⟩; have hp4 := belT hp3 hb4 hz3))
  go_ret
  exact ⟨rfl, hp4⟩
end Go.Proofs.Ytkjgddcjhikdgaa

/- The walk of the law RecordGrows where Put succeeds. Printed by gen17.py. -/
namespace Go.Proofs.Ytkjgddcjhikdgaa
open Go Go.RowKit Go.Shelf

set_option maxHeartbeats 8000000 in
set_option maxRecDepth 100000 in
theorem grows_ok (v u : Value) (l : List Btc) (c kind : Int) (nm : ByteArray) (b : Blt) (w : World) (h : RBtcs Any w v l) (hu : VBlt Any w u b) (hg : great l = false) (hgb : greatBlt b = false) (hnm : ¬ 1000 < nm.size) (hP : putI l c kind nm b = 0) :
    Calls Try.prog 14 #[v, .int .i64 c, .int .u8 kind, .string nm, u] w fun e w' => e = .returned (.bool true) ∧ Below w.heap.size w w' := by
  have hG := fun W (hW : Below w.heap.size w W) => great26 Any v l W (h.same (.of_below hW))
  have hGb := fun W (hW : Below w.heap.size w W) => great08 Any u b W (hu.same (.of_below hW))
  have hsm := small_of hg
  rw [hg] at hG
  rw [hgb] at hGb
  have hbm : b.marks.length ≤ 1000000 := by simp [greatBlt] at hgb; omega
  obtain ⟨i0, hGr⟩ := put_grown l nm b
  have hx0 := put1_check hP
  have hTal := put_tally hP
  have hPL : putL l c kind nm b = put1 l nm b := by rw [putL, if_pos hP]
  obtain ⟨X, hX⟩ : ∃ X, put1 l nm b = X := ⟨_, rfl⟩
  rw [hX] at hx0 hGr hTal hPL
  have hXs := small_ok hx0
  obtain ⟨N, hN⟩ : ∃ N, X.length = N := ⟨_, rfl⟩
  obtain ⟨L, hL⟩ : ∃ L, l.length = L := ⟨_, rfl⟩
  obtain ⟨I1, hI1⟩ : ∃ I, tallyI l c kind = I := ⟨_, rfl⟩
  obtain ⟨I2, hI2⟩ : ∃ I, tallyI X c kind = I := ⟨_, rfl⟩
  obtain ⟨p1, hV1⟩ : ∃ p, tallyV l c kind = p := ⟨_, rfl⟩
  obtain ⟨p2, hV2⟩ : ∃ p, tallyV X c kind = p := ⟨_, rfl⟩
  obtain ⟨n1, hn1⟩ : ∃ n, p1.rows.length = n := ⟨_, rfl⟩
  obtain ⟨n2, hn2⟩ : ∃ n, p2.rows.length = n := ⟨_, rfl⟩
  rw [hI1, hI2, hV1, hV2] at hTal
  have hT1 := fun W (hW : Below w.heap.size w W) => (recTally Any v l c kind W (h.same (.of_below hW))).mono fun _ _ => TalOpen.of hI1 hV1 hn1
  have hT2 := fun W ax capx (hW : RBtcs Any W (.slice ax N capx) X) => (recTally Any _ X c kind W hW).mono fun _ _ => TalOpen.of hI2 hV2 hn2
  have hways : (I1 = 0 ∧ I2 = 0 ∧ takeI p2 b 1 = 0 ∧ takeV p2 b 1 = p1) ∨ (I1 = 0 ∧ I2 = 9) ∨ (I1 = 9 ∧ I2 = 9) := by
    rcases hTal with h1 | ⟨h1 | h1, h2⟩
    · exact .inl h1
    · exact .inr (.inl ⟨h1, h2⟩)
    · exact .inr (.inr ⟨h1, h2⟩)
  have hTk := fun W uu ub (hv : VProf Any W uu p2) (hub : VBlt Any W ub b) (h1 : takeI p2 b 1 = 0) (h2 : takeV p2 b 1 = p1) => (profTake Any Any uu ub p2 b 1 W hv hub).mono fun e w' (hh : ProfGives _ _ _ W e w') => (show TalOpen p1 n1 0 W e w' from by
    obtain ⟨x, he, hx, hb⟩ := hh
    rw [h1] at he
    rw [h2] at hx
    obtain ⟨a3, c3, rfl, q1, q2, q3⟩ := hx
    rw [hn1] at he q3
    exact ⟨a3, c3, he, ⟨a3, c3, by rw [hn1], q1, q2, by rw [hn1]; exact RRows.mono (fun _ _ => trivial) q3⟩, hb⟩)
  have hPt := fun W (hW : Below w.heap.size w W) => (put Any v u l c kind nm b W (h.same (.of_below hW)) (hu.same (.of_below hW)) (by omega) hsm hbm).mono fun e w' (hh : PutGives l c kind nm b W e w') => (show ∃ a cc, e = .returned (.tuple #[.slice a N cc, .int .i64 0]) ∧ RBtcs Any w' (.slice a N cc) X ∧ Below W.heap.size W w' from by
    obtain ⟨x, he, ho, hb⟩ := hh
    rw [hP] at he
    rw [hPL] at ho
    have hr := RBtcs.mono (T := Any) (fun _ _ => trivial) ho.toR
    obtain ⟨a, cc, rfl, -, -⟩ := RSl.shape hr
    rw [hN] at he hr
    exact ⟨a, cc, he, hr, hb⟩)
  have hCk := fun W x (hW : RBtcs Any W x X) => recordCheck Any x X c kind W hW
  rw [hx0] at hCk
  have hHl := fun W (hW : Below w.heap.size w W) => h.same (.of_below hW)
  have hlen := hGr.len
  have hi0 := hGr.lt
  rw [hN, hL] at hlen
  rw [hN] at hi0
  obtain ⟨hlen1, hlen2⟩ := hlen
  have hNL1 : ¬ N < L := by omega
  have hNL2 : ¬ ((L : Int) + 1 < (N : Int)) := by omega
  have hN17 : N ≤ 1000000 := by rw [← hN]; exact hXs.1
  obtain ⟨a, cap, rfl, hcap1, hcap2⟩ := RSl.shape h
  rw [hL] at hcap1 hcap2 hG hPt hHl hT1 ⊢
  have hU := fun W (hW : Below w.heap.size w W) => hu.same (.of_below hW)
  obtain ⟨cc, dd, rfl, hD⟩ := hu
  obtain ⟨a2, c2, rfl, rfl, hl2, -, -, -⟩ := hD.open
  have hb0 := below_new w (.cells #[.int .u8 b.kind, .slice a2 b.marks.length c2] 25)
  have hbx := box_new w (.cells #[.int .u8 b.kind, .slice a2 b.marks.length c2] 25)
  have hXX := fun W (hW : Below (w.alloc (.cells #[.int .u8 b.kind, .slice a2 b.marks.length c2] 25)).heap.size (w.alloc (.cells #[.int .u8 b.kind, .slice a2 b.marks.length c2] 25)) W) => own_box hW (by simp) hbx
  have HXX := Lib.hid hXX; have HG := Lib.hid hG; have HGb := Lib.hid hGb; have HPt := Lib.hid hPt; have HCk := Lib.hid hCk; have HHl := Lib.hid hHl; have HU := Lib.hid hU
  have HT1 := Lib.hid hT1; have HT2 := Lib.hid hT2; have HTk := Lib.hid hTk; have Hways := Lib.hid hways; have HGr := Lib.hid hGr; have Hx0 := Lib.hid hx0; have HXs := Lib.hid hXs; have HN := Lib.hid hN; have HL := Lib.hid hL; have Hsm := Lib.hid hsm
  clear hG hGb hPt hCk hHl hU hT1 hT2 hTk hways hGr hx0 hXs hN hL hsm hXX hbx hX hPL hTal hI1 hI2 hV1 hV2 hn1 hn2 hD hl2 hbm hg hgb hP h
  go_enter Try.func14, Try.ntmps14
  go_wp2_with (first
    | (go_at_call 58; refine (alive26 _).mono ?_; rintro e w1 ⟨rfl, hb1⟩; have hp1 := belT hb0 hb1 (by simp); have hz1 := hp1.size; have hx1 := hb1)
    | (go_at_call 18; refine (HG.out _ hp1).mono ?_; rintro e w2 ⟨rfl, hb2⟩; have hp2 := belT hp1 hb2 hz1; have hz2 := hp2.size; have hx2 := belT hx1 hb2 hx1.size; obtain ⟨q2, k2, -⟩ := HXX.out _ hx2; have k20 := k2 0; have k21 := k2 1; have hlt2 := size_of_box q2; clear k2 q2)
    | (go_at_call 19; refine (HGb.out _ hp2).mono ?_; rintro e w3 ⟨rfl, hb3⟩; have hp3 := belT hp2 hb3 hz2; have hz3 := hp3.size; have hx3 := belT hx2 hb3 hx2.size; obtain ⟨q3, k3, -⟩ := HXX.out _ hx3; have k30 := k3 0; have k31 := k3 1; have hlt3 := size_of_box q3; clear k3 q3)
    | (go_at_call 22; refine (HPt.out _ hp3).mono ?_; rintro e w4 ⟨ax, capx, rfl, hr4, hb4⟩; have hp4 := belT hp3 hb4 hz3; have hz4 := hp4.size; have hx4 := belT hx3 hb4 hx3.size; have HX4 := Lib.hid hr4; clear hr4)
    | (go_at_call 39; refine (HCk.out _ _ HX4.out).mono ?_; rintro e w5 ⟨rfl, hb5⟩; have hp5 := belT hp4 hb5 hz4; have hz5 := hp5.size; have hx5 := belT hx4 hb5 hx4.size; have HX5 := Lib.hid (RBtcs.same (.of_below hb5) HX4.out)))
  clear hp1 hz1 hx1 hp2 hz2 hx2 hp3 hz3 hx3 hp4 hz4 hx4 k20 k21 k30 k31 hlt2 hlt3 HX4 hb1 hb2 hb3 hb4 hb5
  go_loopw [14, 15] (fun s i wr => ∃ (k : Nat) (A : Int), k ≤ N ∧ i = .int .i64 k ∧ s = .int .i64 A ∧ Hid (A = if i0 < k then 1 else 0) ∧ 0 ≤ A ∧ A ≤ 1 ∧ Hid (Below w5.heap.size w5 wr)) (fun _ i _ => N - (intOf i).toNat)
  case atStart => exact ⟨0, 0, Nat.zero_le _, rfl, rfl, Lib.hid (by simp), by omega, by omega, Lib.hid (Below.refl _ _)⟩
  case round =>
    obtain ⟨k, A, hk, rfl, rfl, hA, hA0, hA1, hbb⟩ := hrel
    by_cases hlt : k < N
    · have hkX : k < X.length := by rw [HN.out]; exact hlt
      obtain ⟨b1, off1, c1, d1, rfl, -, hbw1, hc1, hd1, hdx⟩ := RSl.at2 HX5.out k hkX
      obtain ⟨a3, cap3, rfl, rfl, hl3, hw3, hI3⟩ := hdx.open
      clear hdx hI3 hw3
      have hgn := HGr.out.name k
      have hgo := HGr.out.old k hkX
      have hgh := fun (e : k = i0) => (by subst e; exact HGr.out.here hkX : sameName X[k].name nm = true ∧ X[k].blts = wasL l k ++ [b])
      have hgh2 : ∀ (e : k = i0), X[k].name = nm := fun e => name_eq (hgh e).1
      obtain ⟨xn, hxn⟩ : ∃ xn, X[k].blts.length = xn := ⟨_, rfl⟩
      obtain ⟨nx, hnx⟩ : ∃ nx, X[k].name = nx := ⟨_, rfl⟩
      rw [hxn] at hd1 hl3
      rw [hnx] at hc1 hgh2
      have hkL : ∀ h : k < L, k < l.length := fun h => by rw [HL.out]; exact h
      by_cases hkl : k < L
      · -- the batch was there
        have hkl2 := hkL hkl
        obtain ⟨b2, off2, c2', d2', hax, -, hbw2, hc2, hd2, hdy⟩ := RSl.at2 (HHl.out w (Below.refl _ _)) k hkl2
        obtain ⟨a4, cap4, rfl, rfl, hl4, hw4, hI4⟩ := hdy.open
        clear hdy hw4
        subst hax
        obtain ⟨wn, hwn⟩ : ∃ wn, l[k].blts.length = wn := ⟨_, rfl⟩
        have hne := hgn hkl2 hkX
        rw [hnx] at hne
        rw [hwn] at hd2 hl4
        rw [← hne] at hc2
        have hwas : wasL l k = l[k].blts := wasL_at hkl2
        -- the ballots that were there
        have hold : ∀ j (hj : j < wn), ∃ (h1 : j < X[k].blts.length) (h2 : j < l[k].blts.length), X[k].blts[j] = l[k].blts[j] := fun j hj => by
          by_cases e : k = i0
          · have := (hgh e).2
            rw [hwas] at this
            refine ⟨by rw [this]; simp; omega, by omega, ?_⟩
            simp only [this]
            rw [List.getElem_append_left (by omega)]
          · have := (hgo e).2
            rw [hwas] at this
            exact ⟨by rw [this]; omega, by omega, by simp only [this]⟩
        have hcX := (Same.of_below (S := Any) hbb.out).cell trivial hc1
        have hdX := (Same.of_below (S := Any) hbb.out).cell trivial hd1
        have hpw : Below w.heap.size w wr := hp5.trans (hbb.out.mono hz5)
        have hcl := (Same.of_below (S := Any) hpw).cell trivial hc2
        have hdl := (Same.of_below (S := Any) hpw).cell trivial hd2
        obtain ⟨W1, hW1⟩ : ∃ W1, W1 = wr := ⟨_, rfl⟩
        have hbbW : Below w5.heap.size w5 W1 := by rw [hW1]; exact hbb.out
        have e1 := fun p => cell_ext (w := W1) (by rw [hW1]; exact hcX) p
        have e2 := fun p => cell_ext (w := W1) (by rw [hW1]; exact hcl) p
        have Hold := Lib.hid hold; have Hgh := Lib.hid hgh; have Hgo := Lib.hid hgo; have Hgh2 := Lib.hid hgh2; have Hne := Lib.hid hne; have Hwas := Lib.hid hwas; have HI4 := Lib.hid hI4; have Hwn := Lib.hid hwn; have Hxn := Lib.hid hxn; have Hnx := Lib.hid hnx
        have hknL : ¬ L ≤ k := by omega
        clear hold hgh hgo hgh2 hne hwas hI4 hwn hxn hnx hgn hkL hcX hpw hcl
        go_wp2
        rw [← hW1]
        clear hW1 hdX hdl hbb
        refine wp_region_ext (by kernel_rfl) (by kernel_rfl) ?_
        repeat (go_big_quiet_step (fail))
        refine wpQuiet_nil ?_
        intro w6 hw'
        have hb16 : Below W1.heap.size W1 w6 := by obtain ⟨p, rfl⟩ := hw'; exact below_ext W1 p
        have hb6 := belT hbbW hb16 hbbW.size
        clear hw' e1 e2 hb16 hbbW
        go_wp2
        go_loopw [17] (fun i wr => ∃ j : Nat, j ≤ wn ∧ i = .int .i64 j ∧ Hid (Below w5.heap.size w5 wr)) (fun i _ => wn - (intOf i).toNat)
        case atStart => exact ⟨0, Nat.zero_le _, rfl, Lib.hid hb6⟩
        case round =>
          clear hb6
          obtain ⟨j, hj, rfl, hbj⟩ := hrel
          by_cases hjl : j < wn
          · obtain ⟨hj1, hj2, hjy⟩ := Hold.out j hjl
            obtain ⟨b5, off5, c5, d5, rfl, -, hbw5, hc5, hd5, hdz⟩ := RSl.at2 HI4.out j hj2
            have hvz : VBlt Any w (.agg #[c5, d5]) l[k].blts[j] := ⟨_, _, rfl, hdz⟩
            obtain ⟨a6, cap6, rfl, rfl, hl6, hw6, hI6⟩ := hdz.open
            clear hdz hI6 hw6
            have hAt := fun W hX => at_ok Hx0.out HXs.out hkX hj1 hjy _ W (hX : RBtcs Any W (.slice (some ⟨b1, off1, none⟩) N capx) X)
            have HAt := Lib.hid hAt; have Hvz := Lib.hid hvz
            clear hAt hvz hjy
            obtain ⟨y, hy⟩ : ∃ y, l[k].blts[j] = y := ⟨_, rfl⟩
            simp only [hy] at *
            clear hy
            go_wp2_with (go_at_call 36; refine (HAt.out _ (RBtcs.same (.of_below hbj.out) HX5.out)).mono ?_; rintro e w7 ⟨a7, cc7, rfl, hv7, hb7⟩; have hp7 := belT hbj.out hb7 hbj.out.size; have Hv7 := Lib.hid hv7; clear hv7 hb7)
            have hp8 : Below w5.heap.size w5 (w7.alloc (.cells #[.int .u8 y.kind, .slice a7 y.marks.length cc7] 25)) := belT hp7 (below_new w7 _) hp7.size
            have hq8 := hp5.trans (hp8.mono hz5)
            have hS := Same.of_below (S := Any) hq8
            have hbx8 := box_new w7 (.cells #[.int .u8 y.kind, .slice a7 y.marks.length cc7] 25)
            have hv8 := VBlt.same (.of_below (below_new w7 (.cells #[.int .u8 y.kind, .slice a7 y.marks.length cc7] 25))) Hv7.out
            have hu8 := VBlt.same (.of_below hq8) Hvz.out
            have f1 := hS.cell trivial hd2
            have f2 := hS.cell trivial hc5
            have f3 := hS.cell trivial hd5
            have f4 := (own_box (Below.refl _ _) (size_of_box hbx8) hbx8).2.1 0
            have f5 := (own_box (Below.refl _ _) (size_of_box hbx8) hbx8).2.1 1
            clear hq8 hS hbx8
            obtain ⟨W8, hW8⟩ : ∃ W8, w7.alloc (.cells #[.int .u8 y.kind, .slice a7 y.marks.length cc7] 25) = W8 := ⟨_, rfl⟩
            rw [hW8] at hp8 hv8 hu8 f1 f2 f3 f4 f5 ⊢
            clear hW8
            have e1 := fun p => cell_ext f1 p
            have e2 := fun p => cell_ext f2 p
            have e3 := fun p => cell_ext f3 p
            have e4 := fun p => cell_ext (v := .int .u8 y.kind) (f4.trans rfl) p
            have e5 := fun p => cell_ext (v := .slice a7 y.marks.length cc7) (f5.trans rfl) p
            have hF := fun p => same08T Any Any _ _ y (ext W8 p) (hv8.same (.of_below (below_ext W8 p))) (hu8.same (.of_below (below_ext W8 p)))
            have HF := Lib.hid hF
            clear hF hv8 hu8 f1 f2 f3 f4 f5
            refine wp_region_ext (by kernel_rfl) (by kernel_rfl) ?_
            repeat (go_big_quiet_step ((go_at_call 26; have hh := HF.out; exact calls_ext (v := .bool true) (hh _))))
            refine wpQuiet_nil ?_
            intro w9 hw'
            have hb89 : Below W8.heap.size W8 w9 := by obtain ⟨p, rfl⟩ := hw'; exact below_ext W8 p
            have hp9 := belT hp8 hb89 hp8.size
            clear hw' e1 e2 e3 e4 e5 HF hb89
            go_wp2
            exact ⟨⟨j + 1, by omega, by go_num, Lib.hid hp9⟩, by simp [intOf]; omega⟩
          · obtain rfl : j = wn := by omega
            have hdX := (Same.of_below (S := Any) hbj.out).cell trivial hd1
            have hlx : b1 < wr.heap.size := by have := hbj.out.size; omega
            by_cases hki : k = i0
            · have hb1' := (Hgh.out hki).2
              have hgl : j < X[k].blts.length := by rw [hb1', Hwas.out, List.length_append, Hwn.out]; simp
              have hgy : X[k].blts[j] = b := by
                have e := Hwn.out
                simp only [hb1', Hwas.out, ← e]
                simp
              have hxw : xn = j + 1 := by rw [← Hxn.out, hb1', Hwas.out, List.length_append, Hwn.out]; rfl
              have hnn := Hgh2.out hki
              have hAz : A = 0 := by have := hA.out; rw [if_neg (by omega)] at this; exact this
              have Hgl := Lib.hid hgl; have Hgy := Lib.hid hgy
              clear hgy hb1' hA Hold Hgh Hgo Hne Hwas HI4 Hgh2 HGr
              subst hxw hAz
              subst hnn
              have hbjo := hbj.out
              have hAt := fun W hX => at_ok Hx0.out HXs.out hkX Hgl.out Hgy.out _ W (hX : RBtcs Any W (.slice (some ⟨b1, off1, none⟩) N capx) X)
              have HAt := Lib.hid hAt; have Hki := Lib.hid hki
              clear hAt hki
              go_wp2_with (first
                | (go_at_call 36; refine (HAt.out _ (RBtcs.same (.of_below hbjo) HX5.out)).mono ?_; rintro e w9 ⟨a9, cc9, rfl, hv9, hb9⟩; have hp9 := belT hbjo hb9 hbjo.size; have hc9 := (Same.of_below (S := Any) hp9).cell trivial hc1; have hd9 := (Same.of_below (S := Any) hp9).cell trivial hd1; obtain ⟨q9, k9, -⟩ := HXX.out _ (belT hx5 hp9 hx5.size); have k90 := k9 0; have k91 := k9 1; have hlt9 := size_of_box q9; have hlx9 : b1 < w9.heap.size := (by have := hp9.size; omega); have Hv9 := Lib.hid hv9; clear hv9 hb9 q9 k9)
                | (go_at_call 26; have hq9 : Below w.heap.size w (w9.alloc (.cells #[.int .u8 b.kind, .slice a9 b.marks.length cc9] 25)) := (by have := hp5.trans (hp9.mono hz5); exact belT this (below_new _ _) this.size); have hs9 := same08T Any Any _ _ b _ (VBlt.same (.of_below (below_new w9 (.cells #[.int .u8 b.kind, .slice a9 b.marks.length cc9] 25))) Hv9.out) (HU.out _ hq9); refine hs9.mono ?_; rintro e w10 ⟨rfl, hb10⟩; have hp10 := belT hp9 (below_new w9 (.cells #[.int .u8 b.kind, .slice a9 b.marks.length cc9] 25)) hp9.size; have hp11 := belT hp10 hb10 hp10.size; clear hs9 hq9))
              refine ⟨⟨k + 1, 1, by omega, by go_num, by first | rfl | go_num, Lib.hid (by rw [if_pos (by have := Hki.out; omega)]), by omega, by omega, Lib.hid hp11⟩, by simp [intOf]; omega⟩
            · have hb1' := (Hgo.out hki).2
              have hxw : xn = j := by rw [← Hxn.out, hb1', Hwas.out, Hwn.out]
              have hAn : (if i0 < k + 1 then (1 : Int) else 0) = if i0 < k then 1 else 0 := by
                by_cases e : i0 < k
                · rw [if_pos (by omega), if_pos e]
                · rw [if_neg (by omega), if_neg e]
              have HAn := Lib.hid hAn
              clear hAn hb1' Hgh Hgo Hne Hwas HI4 Hgh2 Hold
              subst hxw
              go_wp2
              exact ⟨⟨k + 1, A, by omega, by go_num, rfl, Lib.hid (by rw [HAn.out]; exact hA.out), hA0, hA1, hbj⟩, by simp [intOf]; omega⟩
      · -- a new batch
        have hki : k = i0 := by
          by_cases e : k = i0
          · exact e
          · have := (hgo e).1; rw [HL.out] at this; omega
        have hb1' := (hgh hki).2
        rw [wasL_over (by rw [HL.out]; omega)] at hb1'
        have hgl : 0 < X[k].blts.length := by rw [hb1']; simp
        have hgy : X[k].blts[0] = b := by simp only [hb1']; simp
        have hxw : xn = 1 := by rw [← hxn, hb1']; rfl
        have hnn := hgh2 hki
        have hAz : A = 0 := by have := hA.out; rw [if_neg (by omega)] at this; exact this
        have hdX := (Same.of_below (S := Any) hbb.out).cell trivial hd1
        have hlx : b1 < wr.heap.size := by have := hbb.out.size; omega
        have Hgl := Lib.hid hgl; have Hgy := Lib.hid hgy
        clear hgy hb1' hA hgh hgh2 hgo hgn hkL hxn HGr hnx
        subst hxw hAz
        subst hnn
        have hbbo := hbb.out
        go_wp2
        go_loopw [17] (fun i w' => i = .int .i64 0 ∧ Hid (w' = wr)) (fun i _ => 0)
        case atStart => exact ⟨rfl, Lib.hid rfl⟩
        case round =>
          obtain ⟨rfl, hwr⟩ := hrel
          obtain rfl := hwr.out
          have hAt := fun W hX => at_ok Hx0.out HXs.out hkX Hgl.out Hgy.out _ W (hX : RBtcs Any W (.slice (some ⟨b1, off1, none⟩) N capx) X)
          have HAt := Lib.hid hAt; have Hki := Lib.hid hki
          clear hAt hki
          go_wp2_with (first
            | (go_at_call 36; refine (HAt.out _ (RBtcs.same (.of_below hbbo) HX5.out)).mono ?_; rintro e w9 ⟨a9, cc9, rfl, hv9, hb9⟩; have hp9 := belT hbbo hb9 hbbo.size; have hc9 := (Same.of_below (S := Any) hp9).cell trivial hc1; have hd9 := (Same.of_below (S := Any) hp9).cell trivial hd1; obtain ⟨q9, k9, -⟩ := HXX.out _ (belT hx5 hp9 hx5.size); have k90 := k9 0; have k91 := k9 1; have hlt9 := size_of_box q9; have hlx9 : b1 < w9.heap.size := (by have := hp9.size; omega); have Hv9 := Lib.hid hv9; clear hv9 hb9 q9 k9)
            | (go_at_call 26; have hq9 : Below w.heap.size w (w9.alloc (.cells #[.int .u8 b.kind, .slice a9 b.marks.length cc9] 25)) := (by have := hp5.trans (hp9.mono hz5); exact belT this (below_new _ _) this.size); have hs9 := same08T Any Any _ _ b _ (VBlt.same (.of_below (below_new w9 (.cells #[.int .u8 b.kind, .slice a9 b.marks.length cc9] 25))) Hv9.out) (HU.out _ hq9); refine hs9.mono ?_; rintro e w10 ⟨rfl, hb10⟩; have hp10 := belT hp9 (below_new w9 (.cells #[.int .u8 b.kind, .slice a9 b.marks.length cc9] 25)) hp9.size; have hp11 := belT hp10 hb10 hp10.size; clear hs9 hq9))
          refine ⟨⟨k + 1, 1, by omega, by go_num, by first | rfl | go_num, Lib.hid (by rw [if_pos (by have := Hki.out; omega)]), by omega, by omega, Lib.hid hp11⟩, by simp [intOf]; omega⟩
    · obtain rfl : k = N := by omega
      have hAz : A = 1 := by have := hA.out; rw [if_pos hi0] at this; exact this
      have hpw : Below w.heap.size w wr := hp5.trans (hbb.out.mono hz5)
      have hzw := hpw.size
      have hxw := belT hx5 hbb.out hx5.size
      have HXr := Lib.hid (RBtcs.same (.of_below hbb.out) HX5.out)
      clear hA HX5 hbb hx5 hp5 hz5
      subst hAz
      rcases Hways.out with ⟨rfl, rfl, ht1, ht2⟩ | ⟨rfl, rfl⟩ | ⟨rfl, rfl⟩
      · have Ht1 := Lib.hid ht1; have Ht2 := Lib.hid ht2
        clear ht1 ht2
        have st0 := Lib.hid True.intro
        go_wp2_with (first
          | (have := st0; go_at_call 59; clear st0; refine (HT1.out _ hpw).mono ?_; rintro e w10 ⟨a10, c10, rfl, hv10, hb10⟩; have hp10 := belT hpw hb10 hzw; have hz10 := hp10.size; have hx10 := belT hxw hb10 hxw.size; have HV10 := Lib.hid hv10; have HX10 := Lib.hid (RBtcs.same (.of_below hb10) HXr.out); have Hbx10 := Lib.hid (box_new w10 (.cells #[.int .i64 p1.cands, .int .u8 p1.kind, .slice a10 n1 c10] 98)); clear hv10 hb10 this; have st1 := Lib.hid True.intro)
          | (have := st1; go_at_call 59; clear st1; refine (HT2.out _ _ _ (RBtcs.same (.of_below (below_new _ _)) HX10.out)).mono ?_; rintro e w11 ⟨a11, c11, rfl, hv11, hb11⟩; have hp11 := belT (belT hp10 (below_new w10 _) hz10) hb11 (by simp; omega); have hz11 := hp11.size; have hx11 := belT (belT hx10 (below_new w10 _) hx10.size) hb11 (by have := hx10.size; simp at this ⊢; omega); obtain ⟨q11, k11, -⟩ := HXX.out _ hx11; have k110 := k11 0; have k111 := k11 1; have hlt11 := size_of_box q11; have g11 := own_box hb11 (by simp) Hbx10.out; have HV11 := Lib.hid hv11; have Hg11 := Lib.hid g11.1; have HV101 := Lib.hid (VProf.same (.of_below hb11) (VProf.same (.of_below (below_new w10 (.cells #[.int .i64 p1.cands, .int .u8 p1.kind, .slice a10 n1 c10] 98))) HV10.out)); clear hv11 hb11 this k11 q11 g11; have st2 := Lib.hid True.intro)
          | (have := st2; go_at_call 64; clear st2; refine (HTk.out _ _ _ (VProf.same (.of_below (below_new _ _)) HV11.out) (HU.out _ (belT hp11 (below_new w11 _) hz11)) Ht1.out Ht2.out).mono ?_; rintro e w12 ⟨a12, c12, rfl, hv12, hb12⟩; have hp12 := belT (belT hp11 (below_new w11 _) hz11) hb12 (by simp; omega); have hz12 := hp12.size; have g12 := own_box hb12 (by have := size_of_box Hg11.out; simp; omega) (box_old _ Hg11.out); have k120 := g12.2.1 0; have k121 := g12.2.1 1; have k122 := g12.2.1 2; have hlt12 := size_of_box g12.1; have HV12 := Lib.hid hv12; have HV102 := Lib.hid (VProf.same (.of_below hb12) (VProf.same (.of_below (below_new w11 (.cells #[.int .i64 p2.cands, .int .u8 p2.kind, .slice a11 n2 c11] 98))) HV101.out)); clear hv12 hb12 this g12)
          | (go_at_call 60; refine (profSameT Any Any _ _ p1 _ (VProf.same (.of_below (below_new _ _)) HV102.out) (VProf.same (.of_below (below_new _ _)) HV12.out)).mono ?_; rintro e w13 ⟨rfl, hb13⟩; have hp13 := belT (belT hp12 (below_new w12 _) hz12) hb13 (by simp; omega)))
        go_ret
        exact ⟨rfl, hp13⟩
      all_goals
        have st0 := Lib.hid True.intro
        go_wp2_with (first
          | (have := st0; go_at_call 59; clear st0; refine (HT1.out _ hpw).mono ?_; rintro e w10 ⟨a10, c10, rfl, hv10, hb10⟩; have hp10 := belT hpw hb10 hzw; have hz10 := hp10.size; have HX10 := Lib.hid (RBtcs.same (.of_below hb10) HXr.out); clear hv10 hb10 this; have st1 := Lib.hid True.intro)
          | (have := st1; go_at_call 59; clear st1; refine (HT2.out _ _ _ (RBtcs.same (.of_below (below_new _ _)) HX10.out)).mono ?_; rintro e w11 ⟨a11, c11, rfl, hv11, hb11⟩; have hp11 := belT (belT hp10 (below_new w10 _) hz10) hb11 (by simp; omega); have hz11 := hp11.size; clear hv11 hb11 this))
        go_ret
        exact ⟨rfl, by go_grown⟩
theorem law_grows (v u : Value) (l : List Btc) (c kind : Int) (nm : ByteArray) (b : Blt) (w : World) (h : RBtcs Any w v l) (_ : (Lit.int .i64 c).wf = true) (_ : (Lit.int .u8 kind).wf = true) (_ : nm.size ≤ 140737488355328) (hu : VBlt Any w u b) :
    Calls Try.prog 14 #[v, .int .i64 c, .int .u8 kind, .string nm, u] w fun e w' => e = .returned (.bool true) ∧ Below w.heap.size w w' := by
  by_cases hgr : great l = true ∨ greatBlt b = true ∨ 1000 < nm.size
  · exact grows_great v u l c kind nm b w h hu hgr
  · have h1 : great l = false := by cases hh : great l; rfl; exact absurd (.inl hh) hgr
    have h2 : greatBlt b = false := by cases hh : greatBlt b; rfl; exact absurd (.inr (.inl hh)) hgr
    have h3 : ¬ 1000 < nm.size := fun hh => hgr (.inr (.inr hh))
    by_cases hP : putI l c kind nm b = 0
    · exact grows_ok v u l c kind nm b w h hu h1 h2 h3 hP
    · exact grows_bad v u l c kind nm b w h hu h1 h2 h3 hP
end Go.Proofs.Ytkjgddcjhikdgaa

namespace Go.Proofs.Ytkjgddcjhikdgaa
open Go Go.RowKit Go.ChangeShapes Go.WideShapes Go.ChangeAt

set_option maxRecDepth 100000 in
theorem recordGrows_lifted (os : Os) (started : os.Started) (H : Type) (enc : TypeId × Value → H) :
    ReturnsInHanded {} Try.checked os 14 .any (Rows.recordGrowsSpec.pre6 enc Try.prog Try.f14 Rows.recordGrowsRow.domain false) (Rows.recordGrowsSpec.post enc Try.prog Try.f14 false true false false) := by
  refine returnsInHanded_of_change_sized (C := Try.checked) Try.own started (by kernel_rfl) Try.func14
    (ChangeSpec.witness6 (enc := enc) (C := Try.checked) false ⟨#[], #[.slice none 0 0, .int .i64 0, .int .u8 0, .string ⟨#[]⟩, .agg #[.int .u8 0, .slice none 0 0]], []⟩ 8 (by kernel_rfl) (by kernel_rfl) (by kernel_rfl) (by kernel_rfl)) ?_
  intro W base args ds gs before hval0 hW hcnd hsz0 _
  have hval : ∀ (j : Nat) t v, Try.f14.params[j]? = some t → args[j]? = some v → Value.okWide Try.prog W .any base t v := hval0
  have hsz : (DataW.weightsEach Try.prog (Try.f14.params.toList ++ Rows.recordGrowsSpec.plain.varTypes Try.prog) (ds ++ gs)).all (· ≤ reachBytes) = true := hsz0
  have hW' := hW
  obtain ⟨p, q, hA0, hV, rfl, hfz, hnd⟩ := hW
  have hA : DataW.TrodAll enc Try.prog W 0 (fun _ => true) true Try.f14.params.toList args.toList ds p := hA0
  rw [Try.params14] at hA hval hsz
  obtain ⟨v0, vs0, d0, ds0, p0, q0, hargs, rfl, rfl, h0, r0⟩ := trodAll_cons hA
  obtain ⟨v1, vs1, d1, ds1, p1, q1, rfl, rfl, rfl, h1, r1⟩ := trodAll_cons r0
  obtain ⟨v2, vs2, d2, ds2, p2, q2, rfl, rfl, rfl, h2, r2⟩ := trodAll_cons r1
  obtain ⟨v3, vs3, d3, ds3, p3, q3, rfl, rfl, rfl, h3, r3⟩ := trodAll_cons r2
  obtain ⟨v4, vs4, d4, ds4, p4, q4, rfl, rfl, rfl, h4, r4⟩ := trodAll_cons r3
  obtain ⟨rfl, rfl, rfl⟩ := trodAll_nil r4
  obtain rfl : args = #[v0, v1, v2, v3, v4] := by cases args; simp_all
  obtain ⟨rfl, rfl⟩ := trodVars_none hV
  have k0 := h0
  have k1 := h1
  have k2 := h2
  have k3 := h3
  have k4 := h4
  have lt0 : ∀ x ∈ p0, x.block < W.heap.size := by obtain ⟨m, hm⟩ := k0; exact DataW.trod_lt m _ _ _ hm
  have lt1 : ∀ x ∈ p1, x.block < W.heap.size := by obtain ⟨m, hm⟩ := k1; exact DataW.trod_lt m _ _ _ hm
  have lt2 : ∀ x ∈ p2, x.block < W.heap.size := by obtain ⟨m, hm⟩ := k2; exact DataW.trod_lt m _ _ _ hm
  have lt3 : ∀ x ∈ p3, x.block < W.heap.size := by obtain ⟨m, hm⟩ := k3; exact DataW.trod_lt m _ _ _ hm
  have lt4 : ∀ x ∈ p4, x.block < W.heap.size := by obtain ⟨m, hm⟩ := k4; exact DataW.trod_lt m _ _ _ hm
  obtain ⟨x0, y0⟩ := arg_btcs (hval 0 _ v0 rfl rfl) h0 (weights_at hsz 0 rfl rfl)
  obtain ⟨x1, rfl, e1, e1', wf1⟩ := open_int Try.underlying3 (hval 1 _ v1 rfl rfl) h1
  obtain ⟨x2, rfl, e2, e2', wf2⟩ := open_int Try.underlying5 (hval 2 _ v2 rfl rfl) h2
  obtain ⟨x3, rfl, y3⟩ := arg_str (hval 3 _ v3 rfl rfl) h3 (weights_at hsz 3 rfl rfl)
  obtain ⟨x4, y4⟩ := arg_blt (hval 4 _ v4 rfl rfl) h4 (weights_at hsz 4 rfl rfl)
  clear hA0 hval0
  refine (law_grows v0 v4 x0 x1 x2 x3 x4 W y0 wf1 wf2 y3 y4).mono fun e W' ⟨he, bel⟩ => ?_
  subst he
  exact ⟨_, rfl, _, _, _, [], _, [], hW', trodAll_mk1 (shut_bool Try.underlying4 _), (trodAll_cons_mk (Below.trod Try.laidOut (by kernel_rfl) (of_decide_eq_true (by kernel_rfl)) k0 bel lt0) (trodAll_cons_mk (Below.trod Try.laidOut (by kernel_rfl) (of_decide_eq_true (by kernel_rfl)) k1 bel lt1) (trodAll_cons_mk (Below.trod Try.laidOut (by kernel_rfl) (of_decide_eq_true (by kernel_rfl)) k2 bel lt2) (trodAll_cons_mk (Below.trod Try.laidOut (by kernel_rfl) (of_decide_eq_true (by kernel_rfl)) k3 bel lt3) (trodAll_cons_mk (Below.trod Try.laidOut (by kernel_rfl) (of_decide_eq_true (by kernel_rfl)) k4 bel lt4) trodAll_mk0))))), rfl, bel.frame _, fun h => by cases h⟩

theorem recordGrows_named : Try.prog.funcNamed Rows.recordGrowsRow.func = some 14 := by kernel_rfl
theorem recordGrows_facts : joinedFacts Try.prog 14 Try.f14 Rows.recordGrowsSpec Rows.recordGrowsRow = true := by kernel_rfl
theorem recordGrows_inst : Try.f14.isInstance Try.prog Rows.recordGrowsRow.origin Rows.recordGrowsRow.targs := of_decide_eq_true (by kernel_rfl)
theorem recordGrows_wrap : Try.f14.isWrapper Try.prog Rows.recordGrowsRow.wrapper Rows.recordGrowsRow.mainSum := by
  unfold Func.isWrapper
  rw [if_neg (of_decide_eq_false (by kernel_rfl))]
  exact ⟨rfl, rfl⟩
theorem recordGrows_holds : Rows.RecordGrowsSaid :=
  OpenClaim.holds_of_wide 14 Try.f14 rfl rfl rfl rfl rfl rfl rfl ⟨rfl, rfl, rfl, rfl, rfl⟩ rfl rfl rfl rfl rfl recordGrows_named Try.func14 recordGrows_facts
    recordGrows_inst recordGrows_wrap
    (fun os started H enc _ => recordGrows_lifted os started H enc)
#print axioms recordGrows_holds
end Go.Proofs.Ytkjgddcjhikdgaa
