/- Texts of one claim, put together: HeldL, RenP, RenQ, SumP, RenG, RenH, RenI, RenJ, RenM, RenF, SeatP, TiesP, RenK, RenN, HeldM, RenA, RenB, RenC, RenD, RenE, RenL. -/
import Derived.Test.YthcbkhfmdginiaaGreatAGOne
import Derived.Test.YthcbkhfmdginiaaGreatAGRul
import Derived.Test.YthcbkhfmdginiaaGreatAGCho
import Derived.Test.YthcbkhfmdginiaaGreatAGBal
import Derived.Test.YthcbkhfmdginiaaGreatAGNat
import Derived.Test.YthcbkhfmdginiaaGreatAGSam
import Derived.Test.YthcbkhfmdginiaaGreatAGAdd
import Derived.Test.YthcbkhfmdginiaaGreatAGRead
import Derived.Deep.RegionHeld3
import Derived.Laws.MakeOwn
import Derived.Deep.RegionLaw
import Derived.Laws.ResultCell
import Derived.StillTailTactics

namespace Go.Proofs.YthcbkhfmdginiaaGreat
section
open Go

section
variable {P : Program} {ops : Array Oper} {Q : Exit → Act → World → Prop} {md : Region.Mode} {S : World → Prop} {L : List Nat}
def wpAnyL (P : Program) (md : Region.Mode) (ops : Array Oper) (Q : Exit → Act → World → Prop) (S : World → Prop) (L : List Nat) : Nat → Array Bool → Act → World → Prop
 | 0, listed, a, w => Region.ready md ops listed = [] ∧ Q .normal a w
 | fuel + 1, listed, a, w =>
  (Region.ready md ops listed = [] → Q .normal a w) ∧
  ∀ i ∈ Region.ready md ops listed, wpOp P ops Q i (fun a' w' => (i ∉ L → S w') ∧ wpAnyL P md ops Q S L fuel (listed.setIfInBounds i true) a' w') a w
theorem wpAny_of_L : ∀ (fuel : Nat) (listed : Array Bool) (a : Act) (w : World), wpAnyL P md ops Q S L fuel listed a w → wpAny P md ops Q fuel listed a w
 | 0, _, _, _, h => h
 | fuel + 1, _, _, _, h => ⟨h.1, fun i hi => wpOp_mono (fun a' w' h' => wpAny_of_L fuel _ a' w' h'.2) (h.2 i hi)⟩
def waits (md : Region.Mode) (ops : Array Oper) (L : List Nat) (i : Nat) : Bool := L.all fun l => match ops[l]? with
 | none => true
 | some o => l != i && o.after.any fun e => Region.binds md e && e.on == i
theorem wpAnyL_first {i : Nat} {oi : Oper} {v : Value} (hi : ops[i]? = some oi) (hsel : ∀ (j : Nat) (o : Oper) cs b, ops[j]? = some o → o.op ≠ .select cs b)
  (hQ : ∀ c a w, Q (.panic c) (a.put oi.dst v) w → Q (.panic c) a w) (hL : waits md ops L i = true) :
  ∀ (fuel : Nat) (listed : Array Bool) (a : Act) (w : World),
   (∀ j oj, ops[j]? = some oj → j ≠ i → listed.getD j true = false → (∀ e ∈ oj.after, Region.binds md e = true → e.on ≠ i) → oi.apart ops oj = true) →
   i ∈ Region.ready md ops listed → YieldsIf P ops S oi v a → S w →
   wpAnyL P md ops Q S L fuel (listed.setIfInBounds i true) (a.put oi.dst v) w → wpAnyL P md ops Q S L (fuel + 1) listed a w := by
 intro fuel
 induction fuel with
 | zero =>
  intro listed a w _ hr hy hS H
  refine ⟨fun h => (by rw [h] at hr; cases hr), fun j hj => ?_⟩
  by_cases hji : j = i
  ·subst hji; exact hy.wpOp hi hS ⟨fun _ => hS, H⟩
  ·have := ready_mono hj hji
   rw [H.1] at this
   cases this
 | succ fuel ih =>
  intro listed a w hfree hr hy hS H
  refine ⟨fun h => (by rw [h] at hr; cases hr), fun j hj => ?_⟩
  by_cases hji : j = i
  ·subst hji; exact hy.wpOp hi hS ⟨fun _ => hS, H⟩
  ·have h1 := H.2 j (ready_mono hj hji)
   obtain ⟨hjun, oj, hoj, hall⟩ := mem_ready.1 hj
   have hnot : ∀ e ∈ oj.after, Region.binds md e = true → e.on ≠ i := fun e he hb heq => by
    have h1 := hall e he hb
    have h0 := (mem_ready.1 hr).1
    rw [heq] at h1
    rcases Nat.lt_or_ge i listed.size with h' | h'
    ·simp [h'] at h0 h1; rw [h0] at h1; cases h1
    ·simp [Array.getElem?_eq_none h'] at h1
   have hjL : j ∉ L := fun hm => by
    have h5 := List.all_eq_true.1 hL j hm
    simp only [hoj] at h5
    obtain ⟨-, h6⟩ := Bool.and_eq_true_iff.1 h5
    obtain ⟨e, he, h7⟩ := Array.any_eq_true'.1 h6
    obtain ⟨h8, h9⟩ := Bool.and_eq_true_iff.1 h7
    exact hnot e he h8 (by simpa using h9)
   have h2 := wpOp_putIf hoj (hfree j oj hoj hji hjun hnot) (fun cs b => hsel i oi cs b hi) (fun cs b => hsel j oj cs b hoj) hQ hy h1
   have hfree' : ∀ k ok, ops[k]? = some ok → k ≠ i → (listed.setIfInBounds j true).getD k true = false →
     (∀ e ∈ ok.after, Region.binds md e = true → e.on ≠ i) → oi.apart ops ok = true := fun k ok hk hki hun hno => by
    refine hfree k ok hk hki ?_ hno
    by_cases hjk : j = k
    ·subst hjk; exact hjun
    ·rw [getD_set_ne true hjk] at hun; exact hun
   refine wpOp_mono (fun a' w' h3 => ⟨h3.2.1, ih (listed.setIfInBounds j true) a' w' hfree' (ready_mono hr (Ne.symm hji)) h3.1 (h3.2.1 hjL) ?_⟩) h2
   rw [Array.setIfInBounds_comm _ _ hji]
   exact h3.2.2
theorem wpAnyL_take {i : Nat} {oi : Oper} {v : Value} {fuel : Nat} {listed : Array Bool} {a : Act} {w : World} (hi : ops[i]? = some oi)
  (hs : Region.noSelect ops = true) (hf : Region.free md ops listed i = true) (hr : (Region.ready md ops listed).contains i = true) (hL : waits md ops L i = true)
  (hQ : ∀ c a w, Q (.panic c) (a.put oi.dst v) w → Q (.panic c) a w) (hy : YieldsIf P ops S oi v a) (hS : S w)
  (h : wpAnyL P md ops Q S L fuel (listed.setIfInBounds i true) (a.put oi.dst v) w) : wpAnyL P md ops Q S L (fuel + 1) listed a w :=
 wpAnyL_first hi (Region.noSelect_spec hs) hQ hL fuel listed a w (Region.free_spec hi hf) (by simpa using hr) hy hS h
theorem qa7 {i : Nat} {fuel : Nat} {listed : Array Bool} {a : Act} {w : World} {o : Oper} (hr : Region.ready md ops listed = [i]) (ho : ops[i]? = some o)
  (h : ∀ K' : Act → World → Prop, Shut (∀ a w, S w → (S w → wpAnyL P md ops Q S L fuel (listed.setIfInBounds i true) a w) → K' a w) → if Region.wanted o (yielded ops a.tmps) = true then Oper.wp P o a w K' Q else K' (a.put o.dst undef) w) :
  wpAnyL P md ops Q S L (fuel + 1) listed a w := by
 refine ⟨fun h0 => absurd (hr ▸ h0) (by simp), hr ▸ fun j hj => ?_⟩
 rcases List.mem_cons.1 hj with rfl | hj
 ·exact wpOp_step ho (fun K' hK => h K' (fun a w hS hW => hK a w ⟨fun _ => hS, hW hS⟩))
 ·cases hj
theorem qb3 {i : Nat} {fuel : Nat} {listed : Array Bool} {a : Act} {w : World} {o : Oper} (hr : Region.ready md ops listed = [i]) (ho : ops[i]? = some o) (hi : L.contains i = true)
  (h : ∀ K' : Act → World → Prop, Shut (∀ a w, wpAnyL P md ops Q S L fuel (listed.setIfInBounds i true) a w → K' a w) → if Region.wanted o (yielded ops a.tmps) = true then Oper.wp P o a w K' Q else K' (a.put o.dst undef) w) :
  wpAnyL P md ops Q S L (fuel + 1) listed a w := by
 refine ⟨fun h0 => absurd (hr ▸ h0) (by simp), hr ▸ fun j hj => ?_⟩
 rcases List.mem_cons.1 hj with rfl | hj
 ·exact wpOp_step ho (fun K' hK => h K' (fun a w hW => hK a w ⟨fun hn => absurd (by simpa using hi) hn, hW⟩))
 ·cases hj
theorem wpAnyL_two {i j : Nat} {fuel : Nat} {listed : Array Bool} {a : Act} {w : World} {o p : Oper} (hr : Region.ready md ops listed = [i, j]) (ho : ops[i]? = some o) (hp : ops[j]? = some p)
  (h : ∀ K' : Act → World → Prop, Shut (∀ a w, S w → (S w → wpAnyL P md ops Q S L fuel (listed.setIfInBounds i true) a w) → K' a w) → if Region.wanted o (yielded ops a.tmps) = true then Oper.wp P o a w K' Q else K' (a.put o.dst undef) w)
  (k : ∀ K' : Act → World → Prop, Shut (∀ a w, S w → (S w → wpAnyL P md ops Q S L fuel (listed.setIfInBounds j true) a w) → K' a w) → if Region.wanted p (yielded ops a.tmps) = true then Oper.wp P p a w K' Q else K' (a.put p.dst undef) w) :
  wpAnyL P md ops Q S L (fuel + 1) listed a w := by
 refine ⟨fun h0 => absurd (hr ▸ h0) (by simp), hr ▸ fun l hl => ?_⟩
 rcases List.mem_cons.1 hl with rfl | hl
 ·exact wpOp_step ho (fun K' hK => h K' (fun a w hS hW => hK a w ⟨fun _ => hS, hW hS⟩))
 ·rcases List.mem_cons.1 hl with rfl | hl
  ·exact wpOp_step hp (fun K' hK => k K' (fun a w hS hW => hK a w ⟨fun _ => hS, hW hS⟩))
  ·cases hl
theorem qai {listed : Array Bool} {a : Act} {w : World} (hr : Region.ready md ops listed = []) (h : Q .normal a w) :
  ∀ fuel, wpAnyL P md ops Q S L fuel listed a w
 | 0 => ⟨hr, h⟩
 | _ + 1 => ⟨fun _ => h, by rw [hr]; simp⟩
theorem qal {id : Nat} {a : Act} {w : World} (hm : P.follows .mixedOrders = true) (hS : S w.drew)
  (h : S w.drew → wpAnyL P .any ops Q S L ops.size (Array.replicate ops.size false) a w.drew) : (Code.region id ops true).wp P Q a w :=
 wp_region_any hm (wpAny_of_L _ _ _ _ (h hS))
end
end

section

def scoK (perm marks : List Int) (k : Nat) : List Int := fl marks.length fun z => if perm.idxOf (z : Int) < k then gI marks (perm.idxOf (z : Int) : Nat) else 0
def namK (perm marks : List Int) (k : Nat) : List Int := (marks.take k).map (gI perm) ++ List.replicate (marks.length - k) 0
def renK (kind : Int) (perm marks : List Int) (k : Nat) : List Int := if kind = 3 then scoK perm marks k else namK perm marks k
def renM (kind : Int) (perm marks : List Int) : List Int := if kind = 2 then sortI (renK kind perm marks marks.length) else renK kind perm marks marks.length

theorem gI_mem {perm : List Int} {C : Nat} (hp : LotOf perm C) {x : Int} (h0 : 0 ≤ x) (h1 : x < C) : 0 ≤ gI perm x ∧ gI perm x < C := by
 obtain ⟨n, rfl⟩ : ∃ n : Nat, x = n := ⟨x.toNat, by omega⟩
 rw [gI_at (by rw [hp.len]; omega)]
 exact (hp.all _).1 (List.getElem_mem _)
theorem idx_gI {perm : List Int} {C : Nat} (hp : LotOf perm C) {n : Nat} (h : n < C) : perm.idxOf (gI perm (n : Int)) = n := by
 have hn : n < perm.length := by rw [hp.len]; omega
 rw [gI_at hn]
 exact List.Nodup.idxOf_getElem hp.nodup n hn
theorem gI_inj {perm : List Int} {C : Nat} (hp : LotOf perm C) {x y : Int} (h0 : 0 ≤ x) (h1 : x < C) (k0 : 0 ≤ y) (k1 : y < C) (h : gI perm x = gI perm y) : x = y := by
 obtain ⟨n, rfl⟩ : ∃ n : Nat, x = n := ⟨x.toNat, by omega⟩
 obtain ⟨m, rfl⟩ : ∃ m : Nat, y = m := ⟨y.toNat, by omega⟩
 have e1 := idx_gI hp (n := n) (by omega)
 have e2 := idx_gI hp (n := m) (by omega)
 rw [h] at e1
 omega
theorem idx_lt {perm : List Int} {C : Nat} (hp : LotOf perm C) {z : Int} (h0 : 0 ≤ z) (h1 : z < C) : perm.idxOf z < C ∧ gI perm (perm.idxOf z : Nat) = z := by
 have h := List.idxOf_lt_length_of_mem ((hp.all z).2 ⟨h0, h1⟩)
 rw [gI_at h]
 exact ⟨by rw [← hp.len]; exact h, List.getElem_idxOf h⟩
theorem namK_length (perm marks : List Int) {k : Nat} (hk : k ≤ marks.length) : (namK perm marks k).length = marks.length := by simp [namK]; omega
theorem renK_length (kind : Int) (perm marks : List Int) {k : Nat} (hk : k ≤ marks.length) : (renK kind perm marks k).length = marks.length := by
 rw [renK]; split
 ·exact qae ..
 ·exact namK_length _ _ hk
theorem renK_zero (kind : Int) (perm marks : List Int) : renK kind perm marks 0 = List.replicate marks.length 0 := by
 rw [renK]; split
 ·rw [scoK, ← fl_zero]; exact qbc fun x _ => by rw [if_neg (by omega)]
 ·simp [namK]
theorem sco_step {perm marks : List Int} (hp : LotOf perm marks.length) {k : Nat} (hk : k < marks.length) :
  renK 3 perm marks (k + 1) = (renK 3 perm marks k).set (gI perm (k : Int)).toNat marks[k] := by
 rw [renK, renK, if_pos rfl, if_pos rfl, scoK, scoK, fl_set]
 obtain ⟨g0, g1⟩ := gI_mem hp (x := (k : Int)) (by omega) (by omega)
 apply qbc
 intro z hz
 by_cases he : z = (gI perm (k : Int)).toNat
 ·rw [if_pos he]
  have e : (z : Int) = gI perm (k : Int) := by omega
  rw [e, idx_gI hp hk, if_pos (by omega), gI_at hk]
 ·rw [if_neg he]
  have hne : perm.idxOf (z : Int) ≠ k := fun h => he (by
   have := (idx_lt hp (z := (z : Int)) (by omega) (by omega)).2
   rw [h] at this; omega)
  by_cases hl : perm.idxOf (z : Int) < k
  ·rw [if_pos hl, if_pos (by omega)]
  ·rw [if_neg hl, if_neg (by omega)]
theorem nam_step {kind : Int} (h3 : kind ≠ 3) {perm marks : List Int} {k : Nat} (hk : k < marks.length) :
  renK kind perm marks (k + 1) = (renK kind perm marks k).set k (gI perm marks[k]) := by
 rw [renK, renK, if_neg h3, if_neg h3, namK, namK]
 rw [List.set_append_right _ _ (by simp; exact Nat.min_le_left ..)]
 rw [List.take_succ_eq_append_getElem hk, List.map_append, List.append_assoc]
 congr 1
 rw [List.length_map, List.length_take, Nat.min_eq_left (by omega), Nat.sub_self]
 obtain ⟨d, hd⟩ : ∃ d, marks.length - k = d + 1 := ⟨marks.length - k - 1, by omega⟩
 rw [hd, show marks.length - (k + 1) = d by omega, List.replicate_succ, List.set_cons_zero]; rfl
theorem ren_nam {kind : Int} (h3 : kind ≠ 3) (perm marks : List Int) : renK kind perm marks marks.length = marks.map (gI perm) := by
 rw [renK, if_neg h3, namK]; simp
theorem ren_length (kind : Int) (perm marks : List Int) : (renM kind perm marks).length = marks.length := by
 rw [renM]; split
 ·rw [qaj, renK_length _ _ _ (Nat.le_refl _)]
 ·exact renK_length _ _ _ (Nat.le_refl _)
theorem fine_sco {x : Blt} {C : Nat} (h : fineB x C = true) (hk : x.kind = 3) : x.marks.length = C := by
 unfold fineB at h
 rw [if_pos hk, Bool.and_eq_true] at h
 have := of_decide_eq_true h.2
 omega
theorem fine_nam {x : Blt} {C : Nat} (h : fineB x C = true) (hk : x.kind ≠ 3) : ∀ m ∈ x.marks, 0 ≤ m ∧ m < C := by
 have hi : inB C x.marks = true := by
  unfold fineB at h
  rw [if_neg hk] at h
  split at h
  ·exact (Bool.and_eq_true _ _ ▸ h).1
  ·split at h
   ·exact (Bool.and_eq_true _ _ ▸ h).1
   ·cases h
 intro m hm
 simpa using List.all_eq_true.1 hi m hm
theorem gI_bound {l : List Int} {B : Int} (hB : 0 ≤ B) (h : ∀ m ∈ l, 0 ≤ m ∧ m ≤ B) (x : Int) : 0 ≤ gI l x ∧ gI l x ≤ B := by
 rw [gI, List.getD_eq_getElem?_getD]
 by_cases hx : x.toNat < l.length
 ·rw [List.getElem?_eq_getElem hx]; exact h _ (List.getElem_mem hx)
 ·rw [List.getElem?_eq_none (by omega)]; exact ⟨by simp, by simpa using hB⟩
theorem renK_bound {kind : Int} {perm marks : List Int} {B : Int} (hB : 0 ≤ B) (h1 : ∀ m ∈ marks, 0 ≤ m ∧ m ≤ B) (h2 : ∀ m ∈ perm, 0 ≤ m ∧ m ≤ B) (k : Nat) : ∀ y ∈ renK kind perm marks k, 0 ≤ y ∧ y ≤ B := by
 intro y hy
 rw [renK] at hy
 split at hy
 ·obtain ⟨z, -, rfl⟩ := List.mem_map.1 hy
  split
  ·exact gI_bound hB h1 _
  ·exact ⟨Int.le_refl _, hB⟩
 ·rcases List.mem_append.1 hy with hy | hy
  ·obtain ⟨z, -, rfl⟩ := List.mem_map.1 hy
   exact gI_bound hB h2 _
  ·rw [(List.mem_replicate.1 hy).2]; exact ⟨Int.le_refl _, hB⟩
end

section

def renR (kind : Int) (perm : List Int) (rows : List Row) : List Row := rows.foldl (fun a r => putR a (renM kind perm r.marks) r.many) []
theorem renR_nil (kind : Int) (perm : List Int) : renR kind perm [] = [] := rfl
theorem renR_snoc (kind : Int) (perm : List Int) (rows : List Row) (r : Row) : renR kind perm (rows ++ [r]) = putR (renR kind perm rows) (renM kind perm r.marks) r.many := by
 rw [renR, List.foldl_append]; rfl
theorem renR_take {kind : Int} {perm : List Int} {rows : List Row} {i : Nat} (h : i < rows.length) : renR kind perm (rows.take (i + 1)) = putR (renR kind perm (rows.take i)) (renM kind perm rows[i].marks) rows[i].many := by
 rw [List.take_succ_eq_append_getElem h, renR_snoc]
theorem renR_spec (kind : Int) (perm : List Int) {rows : List Row} (h : ∀ r ∈ rows, 0 < r.many) (i : Nat) (hi : i ≤ rows.length) :
  Asc (renR kind perm (rows.take i)) ∧ sumR (renR kind perm (rows.take i)) = sumR (rows.take i) ∧ (renR kind perm (rows.take i)).length ≤ i ∧ ∀ s ∈ renR kind perm (rows.take i), ∃ r ∈ rows, s.marks = renM kind perm r.marks := by
 induction i with
 | zero => rw [List.take_zero, renR_nil]; exact ⟨trivial, rfl, Nat.le_refl _, fun s hs => absurd hs List.not_mem_nil⟩
 | succ i ih =>
  obtain ⟨h1, h2, h3, h4⟩ := ih (by omega)
  have hi' : i < rows.length := by omega
  rw [renR_take hi']
  refine ⟨putR_asc h1 (h _ (List.getElem_mem _)), ?_, ?_, ?_⟩
  ·rw [putR_sum, h2, List.take_succ_eq_append_getElem hi', sumR, sumR, List.map_append, List.sum_append]; simp
  ·have := (putR_len (renR kind perm (rows.take i)) (renM kind perm rows[i].marks) rows[i].many).2; omega
  ·intro s hs
   rcases putR_mem hs with hm | hm
   ·exact ⟨_, List.getElem_mem hi', hm⟩
   ·exact h4 s hm
end

section

theorem hadF_cons (rule : Nat) (r : Row) (rs : List Row) (c x : Nat) : hadF rule (r :: rs) c x = (if lostL rule r.marks then 0 else giveL rule r.marks c x * r.many) + hadF rule rs c x := by
 rw [hadF, List.filter_cons]
 cases h : lostL rule r.marks <;> simp [hadF]
theorem lostS_cons (rule : Nat) (r : Row) (rs : List Row) : lostS rule (r :: rs) = (if lostL rule r.marks then r.many else 0) + lostS rule rs := by
 rw [lostS, List.filter_cons]
 cases h : lostL rule r.marks <;> simp [lostS]
theorem hadF_put (rule : Nat) (m : List Int) (n : Int) (c x : Nat) : ∀ rs : List Row, hadF rule (putR rs m n) c x = hadF rule rs c x + if lostL rule m then 0 else giveL rule m c x * n
 | [] => by rw [putR, hadF_cons, hadF_nil]; simp only; omega
 | a :: rs => by
  rw [putR]
  split
  ·rw [hadF_cons, hadF_cons, hadF_put rule m n c x rs]; omega
  ·split
   ·rename_i he
    subst he
    rw [hadF_cons, hadF_cons]
    simp only
    split
    ·omega
    ·rw [Int.mul_add]; omega
   ·rw [hadF_cons]; simp only; omega
theorem lostS_put (rule : Nat) (m : List Int) (n : Int) : ∀ rs : List Row, lostS rule (putR rs m n) = lostS rule rs + if lostL rule m then n else 0
 | [] => by rw [putR, lostS_cons]; simp only; omega
 | a :: rs => by
  rw [putR]
  split
  ·rw [lostS_cons, lostS_cons, lostS_put rule m n rs]; omega
  ·split
   ·rename_i he
    subst he
    rw [lostS_cons, lostS_cons]
    simp only
    split <;> omega
   ·rw [lostS_cons]; simp only; omega
theorem chk_of_single {r : Nat} {p : Prof} {seats : Int} {lot : List Int} (h : singleI r p seats lot = 0) : chkP p = 0 := by
 unfold singleI countI at h
 split at h
 ·omega
 ·rename_i h1
  simp only [not_or, Decidable.not_not] at h1
  exact h1.1
theorem single_sum {r : Nat} {c k : Int} {a b : List Row} {seats : Int} {lot : List Int} (h : singleI r ⟨c, k, a⟩ seats lot = 0) (hc : chkP ⟨c, k, b⟩ = 0) : singleI r ⟨c, k, b⟩ seats lot = 0 := by
 unfold singleI countI at h ⊢
 simp only at h ⊢
 split at h
 ·omega
 ·rename_i h1
  split at h
  ·omega
  ·rename_i h2
   rw [if_neg, if_neg h2]
   rintro (h3 | h3)
   ·exact h3 hc
   ·exact h1 (.inr h3)
end

section

theorem mem_ren {k : Int} (h3 : k ≠ 3) {perm m : List Int} {y : Int} : y ∈ renM k perm m ↔ y ∈ m.map (gI perm) := by
 rw [renM]
 split
 ·rw [(qba _).mem_iff, ren_nam h3]
 ·rw [ren_nam h3]
theorem idxOf_map_at {f : Int → Int} {x : Int} : ∀ {l : List Int}, (∀ y ∈ l, f y = f x → y = x) → (l.map f).idxOf (f x) = l.idxOf x
 | [], _ => rfl
 | a :: l, h => by
  have ih := idxOf_map_at (l := l) (f := f) (x := x) fun y hy => h y (List.mem_cons_of_mem _ hy)
  by_cases e : a = x
  ·subst e
   rw [List.map_cons, List.idxOf_cons_self, List.idxOf_cons_self]
  ·have hne : f a ≠ f x := fun q => e (h a (by simp) q)
   rw [List.map_cons, List.idxOf_cons, List.idxOf_cons, ih, beq_false_of_ne hne, beq_false_of_ne e]
theorem mem_map_perm {perm m : List Int} {C : Nat} (hp : LotOf perm C) (hm : ∀ y ∈ m, 0 ≤ y ∧ y < C) {x : Nat} (hx : x < C) : gI perm (x : Int) ∈ m.map (gI perm) ↔ (x : Int) ∈ m := by
 constructor
 ·intro h
  obtain ⟨y, hy, he⟩ := List.mem_map.1 h
  obtain ⟨y0, y1⟩ := hm y hy
  have := gI_inj hp y0 y1 (Int.natCast_nonneg x) (by omega) he
  rwa [← this]
 ·intro h; exact List.mem_map.2 ⟨_, h, rfl⟩
theorem contains_ren {k : Int} (h3 : k ≠ 3) {perm m : List Int} {C : Nat} (hp : LotOf perm C) (hm : ∀ y ∈ m, 0 ≤ y ∧ y < C) {x : Nat} (hx : x < C) : (renM k perm m).contains (gI perm (x : Int)) = m.contains (x : Int) := by
 rw [Bool.eq_iff_iff, List.contains_iff_mem, List.contains_iff_mem, mem_ren h3, mem_map_perm hp hm hx]
theorem give_ren {rule C : Nat} {perm m : List Int} (hp : LotOf perm C) (hf : fineB ⟨kindL rule, m⟩ C = true) {x : Nat} (hx : x < C) :
  giveL rule (renM (kindL rule) perm m) C (gI perm (x : Int)).toNat = giveL rule m C x := by
 obtain ⟨g0, g1⟩ := gI_mem hp (x := (x : Int)) (by omega) (by omega)
 have eg : ((gI perm (x : Int)).toNat : Int) = gI perm (x : Int) := by omega
 match rule, hf with
 | 0, hf =>
  have hc := contains_ren (k := 2) (by omega) hp (fine_nam hf (by show (2 : Int) ≠ 3; omega)) hx
  show (if (renM 2 perm m).contains (((gI perm (x : Int)).toNat : Nat) : Int) then (1 : Int) else 0) = if m.contains (x : Int) then 1 else 0
  rw [eg, hc]
 | 1, hf =>
  have hc := contains_ren (k := 2) (by omega) hp (fine_nam hf (by show (2 : Int) ≠ 3; omega)) hx
  show (if (renM 2 perm m).contains (((gI perm (x : Int)).toNat : Nat) : Int) then (1 : Int) else 0) = if m.contains (x : Int) then 1 else 0
  rw [eg, hc]
 | 2, hf =>
  have hL : m.length = C := fine_sco hf rfl
  show (renM 3 perm m).getD (gI perm (x : Int)).toNat 0 = m.getD x 0
  rw [renM, if_neg (by omega), renK, if_pos rfl, scoK]
  have hlt : (gI perm (x : Int)).toNat < (fl m.length fun z => if perm.idxOf (z : Int) < m.length then gI m (perm.idxOf (z : Int) : Nat) else 0).length := by rw [qae]; omega
  rw [List.getD_eq_getElem?_getD, List.getElem?_eq_getElem hlt, fl_get, eg, idx_gI hp hx, if_pos (by omega)]
  simp [gI]
 | n + 3, hf =>
  have hm := fine_nam hf (by show (1 : Int) ≠ 3; omega)
  have hc := contains_ren (k := 1) (by omega) hp hm hx
  have hi : (renM 1 perm m).idxOf (gI perm (x : Int)) = m.idxOf (x : Int) := by
   rw [renM, if_neg (by omega), ren_nam (by omega)]
   exact idxOf_map_at fun y hy he => gI_inj hp (hm y hy).1 (hm y hy).2 (by omega) (by omega) he
  show (if (renM 1 perm m).contains (((gI perm (x : Int)).toNat : Nat) : Int) then (C : Int) - 1 - ((renM 1 perm m).idxOf (((gI perm (x : Int)).toNat : Nat) : Int) : Nat) else 0) = if m.contains (x : Int) then (C : Int) - 1 - (m.idxOf (x : Int) : Nat) else 0
  rw [eg, hc, hi]
theorem lost_ren {rule : Nat} {k : Int} {perm m : List Int} : lostL rule (renM k perm m) = lostL rule m := by rw [lostL, lostL, ren_length]
theorem had_ren {rule C : Nat} {perm : List Int} (hp : LotOf perm C) {rows : List Row} (hf : ∀ r ∈ rows, fineB ⟨kindL rule, r.marks⟩ C = true) {x : Nat} (hx : x < C) :
  ∀ i, i ≤ rows.length → hadF rule (renR (kindL rule) perm (rows.take i)) C (gI perm (x : Int)).toNat = hadF rule (rows.take i) C x
 | 0, _ => rfl
 | i + 1, h => by
  have hi : i < rows.length := by omega
  rw [renR_take hi, hadF_put, hadF_take hi, had_ren hp hf hx i (by omega), lost_ren, give_ren hp (hf _ (List.getElem_mem hi)) hx]
theorem lostS_ren {rule : Nat} {k : Int} {perm : List Int} {rows : List Row} : ∀ i, i ≤ rows.length → lostS rule (renR k perm (rows.take i)) = lostS rule (rows.take i)
 | 0, _ => rfl
 | i + 1, h => by
  have hi : i < rows.length := by omega
  rw [renR_take hi, lostS_put, lostS_take hi, lostS_ren i (by omega), lost_ren]
end

section

theorem nodup_ren {perm m : List Int} {C : Nat} (hp : LotOf perm C) (hm : ∀ y ∈ m, 0 ≤ y ∧ y < C) (hn : m.Nodup) : (m.map (gI perm)).Nodup :=
 (List.pairwise_map).2 (List.Pairwise.imp_of_mem (fun {a b} ha hb hab he => hab (gI_inj hp (hm a ha).1 (hm a ha).2 (hm b hb).1 (hm b hb).2 he)) hn)
theorem map_bound {perm m : List Int} {C : Nat} (hp : LotOf perm C) (hm : ∀ y ∈ m, 0 ≤ y ∧ y < C) : ∀ y ∈ m.map (gI perm), 0 ≤ y ∧ y < C := fun y hy => by
 obtain ⟨z, hz, rfl⟩ := List.mem_map.1 hy
 exact gI_mem hp (hm z hz).1 (hm z hz).2
theorem inB_of {c : Int} {l : List Int} (h : ∀ y ∈ l, 0 ≤ y ∧ y < c) : inB c l = true := List.all_eq_true.2 fun y hy => decide_eq_true (h y hy)
theorem fine_ren {perm m : List Int} {k : Int} {C : Nat} (hp : LotOf perm C) (hf : fineB ⟨k, m⟩ C = true) : fineB ⟨k, renM k perm m⟩ C = true := by
 by_cases h3 : k = 3
 ·subst h3
  have hL : m.length = C := fine_sco hf rfl
  have hb : ∀ y ∈ m, 0 ≤ y ∧ y ≤ 10 := fun y hy => by
   unfold fineB at hf
   rw [if_pos rfl, Bool.and_eq_true] at hf
   have := List.all_eq_true.1 hf.1 y hy
   have := of_decide_eq_true this
   omega
  unfold fineB
  rw [if_pos rfl, Bool.and_eq_true]
  refine ⟨inB_of ?_, decide_eq_true ?_⟩
  ·intro y hy
   have e : renM 3 perm m = renK 3 perm m m.length := by rw [renM, if_neg (by omega)]
   rw [renK, if_pos rfl] at e
   have hy' : y ∈ renM 3 perm m := hy
   rw [e] at hy'
   obtain ⟨z, -, rfl⟩ := List.mem_map.1 hy'
   split
   ·have := gI_bound (by omega) hb (perm.idxOf (z : Int) : Nat); omega
   ·omega
  ·show ((renM 3 perm m).length : Int) = C
   rw [ren_length, hL]
 ·have hm := fine_nam hf h3
  simp only at hm
  by_cases h2 : k = 2
  ·subst h2
   have hn : m.Nodup := by
    unfold fineB at hf
    rw [if_neg (by show ¬ (2 : Int) = 3; omega), if_pos rfl, Bool.and_eq_true, Bool.and_eq_true] at hf
    exact of_decide_eq_true hf.2.2
   have e : renM 2 perm m = sortI (m.map (gI perm)) := by rw [renM, if_pos rfl, ren_nam (by omega)]
   unfold fineB
   rw [if_neg (by show ¬ (2 : Int) = 3; omega), if_pos rfl, Bool.and_eq_true, Bool.and_eq_true, e]
   exact ⟨inB_of fun y hy => map_bound hp hm y ((qba _).mem_iff.1 hy), decide_eq_true (sortI_sorted _), decide_eq_true ((qba _).nodup_iff.2 (nodup_ren hp hm hn))⟩
  ·have h1 : k = 1 := by
    unfold fineB at hf
    rw [if_neg h3, if_neg h2] at hf
    split at hf
    ·assumption
    ·cases hf
   subst h1
   have hn : m.Nodup := by
    unfold fineB at hf
    rw [if_neg (by show ¬ (1 : Int) = 3; omega), if_neg (by show ¬ (1 : Int) = 2; omega), if_pos rfl, Bool.and_eq_true] at hf
    exact of_decide_eq_true hf.2
   have e : renM 1 perm m = m.map (gI perm) := by rw [renM, if_neg (by omega), ren_nam (by omega)]
   unfold fineB
   rw [if_neg (by show ¬ (1 : Int) = 3; omega), if_neg (by show ¬ (1 : Int) = 2; omega), if_pos rfl, Bool.and_eq_true, e]
   exact ⟨inB_of (map_bound hp hm), decide_eq_true (nodup_ren hp hm hn)⟩
theorem check_fine {x : Blt} {c : Int} (h : checkB x c = 0) : fineB x c = true := by
 unfold checkB at h
 split at h
 ·cases hf : fineB x c
  ·rw [hf] at h; simp at h
  ·rfl
 ·omega
theorem chk_ren {c k : Int} {rows : List Row} {perm : List Int} {C : Nat} (hC : c = C) (hp : LotOf perm C) (h : chkP ⟨c, k, rows⟩ = 0) : chkP ⟨c, k, renR k perm rows⟩ = 0 := by
 have hv := chkP_zero.1 h
 obtain ⟨s1, s2, s3, s4⟩ := renR_spec k perm (rows := rows) hv.asc.many rows.length (Nat.le_refl _)
 rw [List.take_length] at s1 s2 s3 s4
 have h1 : rows.length ≤ 64 := hv.rows
 have h2 : sumR rows ≤ 1000000 := hv.sum
 refine chkP_zero.2 ⟨by show (renR k perm rows).length ≤ 64; omega, s1, fun r hr => ?_, hv.new, by show sumR (renR k perm rows) ≤ 1000000; omega⟩
 obtain ⟨q, hq, he⟩ := s4 r hr
 have hfq := check_fine (hv.fit q hq)
 have hn := hv.new
 simp only at hn hfq ⊢
 rw [he, checkB, if_pos ⟨by omega, by omega⟩, hC, fine_ren hp (by rw [← hC]; exact hfq)]; rfl
end

section

def imgL (perm : List Int) (C : Nat) (l : List Int) : List Int := (rngI C).filter fun y => (l.map (gI perm)).contains y
theorem mem_img {perm l : List Int} {C : Nat} {y : Int} : y ∈ imgL perm C l ↔ (0 ≤ y ∧ y < C) ∧ ∃ x ∈ l, gI perm x = y := by
 rw [imgL, List.mem_filter, qaz, List.contains_iff_mem, List.mem_map]
theorem img_at {perm l : List Int} {C : Nat} (hp : LotOf perm C) (hl : ∀ x ∈ l, 0 ≤ x ∧ x < C) {x : Int} (h0 : 0 ≤ x) (h1 : x < C) : gI perm x ∈ imgL perm C l ↔ x ∈ l := by
 rw [mem_img]
 constructor
 ·rintro ⟨-, z, hz, he⟩
  have := gI_inj hp (hl z hz).1 (hl z hz).2 h0 h1 he
  rwa [← this]
 ·intro h; exact ⟨gI_mem hp h0 h1, x, h, rfl⟩
theorem img_length {perm l : List Int} {C : Nat} (hp : LotOf perm C) (hl : ∀ x ∈ l, 0 ≤ x ∧ x < C) (hn : l.Nodup) : (imgL perm C l).length = l.length := by
 have h1 : (imgL perm C l).Nodup := List.Pairwise.filter _ (rngI_nodup C)
 have h2 := nodup_ren hp hl hn
 have hP : List.Perm (imgL perm C l) (l.map (gI perm)) := (List.perm_ext_iff_of_nodup h1 h2).2 fun y => by
  rw [mem_img, List.mem_map]
  constructor
  ·rintro ⟨-, x, hx, he⟩; exact ⟨x, hx, he⟩
  ·rintro ⟨x, hx, he⟩; exact ⟨he ▸ gI_mem hp (hl x hx).1 (hl x hx).2, x, hx, he⟩
 rw [hP.length_eq, List.length_map]
theorem img_surj {perm : List Int} {C : Nat} (hp : LotOf perm C) {y : Int} (h0 : 0 ≤ y) (h1 : y < C) : ∃ x : Int, 0 ≤ x ∧ x < C ∧ gI perm x = y := by
 obtain ⟨q1, q2⟩ := idx_lt hp h0 h1
 exact ⟨(perm.idxOf y : Nat), by omega, by omega, q2⟩
theorem best_img {perm left : List Int} {C : Nat} {f f2 : Int → Int} (hp : LotOf perm C) (hl : ∀ x ∈ left, 0 ≤ x ∧ x < C) (hf : ∀ x : Int, 0 ≤ x → x < C → f2 (gI perm x) = f x) :
  bestL f2 (imgL perm C left) = imgL perm C (bestL f left) := by
 rw [bestL, imgL, List.filter_filter, imgL]
 apply List.filter_congr
 intro y hy
 obtain ⟨y0, y1⟩ := qaz.1 hy
 obtain ⟨x, x0, x1, rfl⟩ := img_surj hp y0 y1
 rw [Bool.eq_iff_iff, Bool.and_eq_true, List.all_eq_true, List.contains_iff_mem, List.contains_iff_mem]
 have hin : ∀ {l : List Int}, (∀ z ∈ l, 0 ≤ z ∧ z < (C : Int)) → (gI perm x ∈ l.map (gI perm) ↔ x ∈ l) := fun {l} h => by
  obtain ⟨n, rfl⟩ : ∃ n : Nat, x = n := ⟨x.toNat, by omega⟩
  exact mem_map_perm hp h (by omega)
 rw [hin hl, hin (fun z hz => hl z (qag.1 hz).1), qag]
 constructor
 ·rintro ⟨h1, h2⟩
  refine ⟨h2, fun z hz => ?_⟩
  have := h1 (gI perm z) (List.mem_filter.2 ⟨qaz.2 (gI_mem hp (hl z hz).1 (hl z hz).2), List.contains_iff_mem.2 (List.mem_map.2 ⟨z, hz, rfl⟩)⟩)
  have := of_decide_eq_true this
  rwa [hf z (hl z hz).1 (hl z hz).2, hf x x0 x1] at this
 ·rintro ⟨h1, h2⟩
  refine ⟨fun z hz => decide_eq_true ?_, h1⟩
  obtain ⟨-, q, hq, rfl⟩ := mem_img.1 (show z ∈ imgL perm C left from hz)
  rw [hf q (hl q hq).1 (hl q hq).2, hf x x0 x1]
  exact h2 q hq
theorem first_img {perm lot am : List Int} {C : Nat} (hp : LotOf perm C) (hl : LotOf lot C) (ha : ∀ x ∈ am, 0 ≤ x ∧ x < C) (hne : am ≠ []) :
  firstL (lot.map (gI perm)) (imgL perm C am) = gI perm (firstL lot am) := by
 rw [firstL, firstL, List.find?_map]
 have e : lot.find? ((fun x => (imgL perm C am).contains x) ∘ gI perm) = lot.find? fun x => am.contains x := by
  have : ∀ l : List Int, (∀ x ∈ l, 0 ≤ x ∧ x < (C : Int)) → l.find? ((fun x => (imgL perm C am).contains x) ∘ gI perm) = l.find? fun x => am.contains x := fun l => by
   induction l with
   | nil => intro _; rfl
   | cons a l ih =>
    intro h
    have hb : (imgL perm C am).contains (gI perm a) = am.contains a := by
     rw [Bool.eq_iff_iff, List.contains_iff_mem, List.contains_iff_mem, img_at hp ha (h a (by simp)).1 (h a (by simp)).2]
    rw [List.find?_cons, List.find?_cons, Function.comp_apply, hb, ih fun x hx => h x (List.mem_cons_of_mem _ hx)]
  exact this lot fun x hx => (hl.all x).1 hx
 rw [e]
 obtain ⟨x, hx⟩ := List.exists_mem_of_ne_nil _ hne
 cases hf : lot.find? fun x => am.contains x with
 | some z => rfl
 | none =>
  have := List.find?_eq_none.1 hf x ((hl.all x).2 (ha x hx))
  simp [hx] at this
def tieRen (perm : List Int) (C : Nat) (t : Tie) : Tie := ⟨imgL perm C t.among, gI perm t.chosen⟩
theorem seat_ren {had had2 lot perm : List Int} {C : Nat} (hp : LotOf perm C) (hC : had.length = C) (hC2 : had2.length = C) (hl : LotOf lot C) (hf : ∀ x : Int, 0 ≤ x → x < C → gI had2 (gI perm x) = gI had x) :
  ∀ i, i ≤ C → (seatSt had2 (lot.map (gI perm)) i).left = imgL perm C (seatSt had lot i).left ∧ (seatSt had2 (lot.map (gI perm)) i).elected = (seatSt had lot i).elected.map (gI perm) ∧ (seatSt had2 (lot.map (gI perm)) i).ties = (seatSt had lot i).ties.map (tieRen perm C)
 | 0, _ => by
  refine ⟨?_, rfl, rfl⟩
  show rngI had2.length = imgL perm C (rngI had.length)
  rw [hC, hC2, imgL]
  symm
  refine List.filter_eq_self.2 fun y hy => ?_
  obtain ⟨y0, y1⟩ := qaz.1 hy
  obtain ⟨x, x0, x1, rfl⟩ := img_surj hp y0 y1
  exact List.contains_iff_mem.2 (List.mem_map.2 ⟨x, qaz.2 ⟨x0, x1⟩, rfl⟩)
 | i + 1, h => by
  obtain ⟨e1, e2, e3⟩ := seat_ren hp hC hC2 hl hf i (by omega)
  have hl' : LotOf lot had.length := by rw [hC]; exact hl
  have hr : ∀ x ∈ (seatSt had lot i).left, 0 ≤ x ∧ x < (C : Int) := fun x hx => by
   rw [seat_left] at hx
   have := qaz.1 (List.mem_filter.1 hx).1
   rw [hC] at this; exact this
  have hne : (seatSt had lot i).left ≠ [] := fun h0 => by
   have := (seat_facts hl' i (by omega)).2.2
   rw [h0, List.length_nil] at this; omega
  have hbn := bestL_ne (f := gI had) hne
  have hbr : ∀ x ∈ bestL (gI had) (seatSt had lot i).left, 0 ≤ x ∧ x < (C : Int) := fun x hx => hr x (qag.1 hx).1
  have hbd : (bestL (gI had) (seatSt had lot i).left).Nodup := by
   rw [bestL, seat_left]
   exact List.Pairwise.filter _ (List.Pairwise.filter _ (rngI_nodup _))
  have hb := best_img (f := gI had) (f2 := gI had2) hp hr hf
  have hx := first_img hp hl hbr hbn
  have hwin := seat_win hl' hne
  have hw0 := hr _ hwin.2
  simp only [seatSt, e1, e2, e3, hb, hx]
  refine ⟨?_, by rw [List.map_append]; rfl, ?_⟩
  ·rw [imgL, imgL, List.filter_filter]
   apply List.filter_congr
   intro y hy
   obtain ⟨y0, y1⟩ := qaz.1 hy
   obtain ⟨x, x0, x1, rfl⟩ := img_surj hp y0 y1
   have hin : ∀ {l : List Int}, (∀ z ∈ l, 0 ≤ z ∧ z < (C : Int)) → (gI perm x ∈ l.map (gI perm) ↔ x ∈ l) := fun {l} h => by
    obtain ⟨n, rfl⟩ : ∃ n : Nat, x = n := ⟨x.toNat, by omega⟩
    exact mem_map_perm hp h (by omega)
   rw [Bool.eq_iff_iff, Bool.and_eq_true, List.contains_iff_mem, List.contains_iff_mem, hin hr, hin (fun z hz => hr z (List.mem_filter.1 hz).1), List.mem_filter]
   have hxx : (gI perm x == gI perm (firstL lot (bestL (gI had) (seatSt had lot i).left))) = (x == firstL lot (bestL (gI had) (seatSt had lot i).left)) := by
    rw [Bool.eq_iff_iff, beq_iff_eq, beq_iff_eq]
    exact ⟨fun q => gI_inj hp x0 x1 hw0.1 hw0.2 q, fun q => by rw [q]⟩
   rw [hxx]
   exact And.comm
  ·rw [List.map_append, tieL, tieL, img_length hp hbr hbd]
   congr 1
   split <;> rfl
end

section

def permK {α : Type} (z0 : α) (perm : List Int) (xs : List α) (k : Nat) : List α := (List.range xs.length).map fun (z : Nat) => if perm.idxOf (z : Int) < k then xs.getD (perm.idxOf (z : Int)) z0 else z0
theorem qak {α : Type} (z0 : α) (perm : List Int) (xs : List α) (k : Nat) : (permK z0 perm xs k).length = xs.length := by simp [permK]
theorem permK_get {α : Type} {z0 : α} {perm : List Int} {xs : List α} {k z : Nat} (h : z < (permK z0 perm xs k).length) : (permK z0 perm xs k)[z] = if perm.idxOf (z : Int) < k then xs.getD (perm.idxOf (z : Int)) z0 else z0 := by simp [permK]
theorem permK_zero {α : Type} (z0 : α) (perm : List Int) (xs : List α) : permK z0 perm xs 0 = List.replicate xs.length z0 := by
 apply List.ext_getElem (by simp [qak])
 intro i h1 h2
 rw [permK_get, if_neg (by omega), List.getElem_replicate]
theorem permK_step {α : Type} {z0 : α} {perm : List Int} {xs : List α} (hp : LotOf perm xs.length) {k : Nat} (hk : k < xs.length) :
  permK z0 perm xs (k + 1) = (permK z0 perm xs k).set (gI perm (k : Int)).toNat xs[k] := by
 obtain ⟨g0, g1⟩ := gI_mem hp (x := (k : Int)) (by omega) (by omega)
 apply List.ext_getElem (by rw [List.length_set, qak, qak])
 intro z h1 h2
 have hz : z < xs.length := by rw [qak] at h1; exact h1
 rw [permK_get, List.getElem_set]
 by_cases he : (gI perm (k : Int)).toNat = z
 ·rw [if_pos he]
  have e : (z : Int) = gI perm (k : Int) := by omega
  rw [e, idx_gI hp hk, if_pos (by omega), List.getD_eq_getElem?_getD, List.getElem?_eq_getElem hk]; rfl
 ·rw [if_neg he, permK_get]
  have hne : perm.idxOf (z : Int) ≠ k := fun h => he (by
   have := (idx_lt hp (z := (z : Int)) (by omega) (by omega)).2
   rw [h] at this; omega)
  by_cases hl : perm.idxOf (z : Int) < k
  ·rw [if_pos hl, if_pos (by omega)]
  ·rw [if_neg hl, if_neg (by omega)]
theorem permK_all {z0 : Rt} {perm had had2 : List Int} {C : Nat} (hp : LotOf perm C) (hC : had.length = C) (hC2 : had2.length = C) (hf : ∀ x : Int, 0 ≤ x → x < C → gI had2 (gI perm x) = gI had x) :
  permK z0 perm (had.map whole) C = had2.map whole := by
 apply List.ext_getElem (by rw [qak, List.length_map, List.length_map, hC, hC2])
 intro z h1 h2
 have hz : z < C := by rw [qak, List.length_map, hC] at h1; exact h1
 obtain ⟨q1, q2⟩ := idx_lt hp (z := (z : Int)) (by omega) (by omega)
 have h3 := hf (perm.idxOf (z : Int) : Nat) (by omega) (by omega)
 rw [q2, gI_at (by omega), gI_at (by omega)] at h3
 rw [permK_get, if_pos q1, List.getD_eq_getElem?_getD, List.getElem?_eq_getElem (by rw [List.length_map]; omega), List.getElem_map, List.getElem_map, h3]; rfl
theorem gI_had {rule : Nat} {rows : List Row} {C : Nat} {x : Nat} (hx : x < C) : gI (hadL rule rows C) (x : Int) = hadF rule rows C x := by
 rw [gI_at (by rw [hadL_length]; exact hx)]
 rw [hadL_get]; rfl
theorem hadL_ren {rule C : Nat} {perm : List Int} (hp : LotOf perm C) {rows : List Row} (hf : ∀ r ∈ rows, fineB ⟨kindL rule, r.marks⟩ C = true) :
  ∀ x : Int, 0 ≤ x → x < C → gI (hadL rule (renR (kindL rule) perm rows) C) (gI perm x) = gI (hadL rule rows C) x := by
 intro x h0 h1
 obtain ⟨n, rfl⟩ : ∃ n : Nat, x = n := ⟨x.toNat, by omega⟩
 obtain ⟨g0, g1⟩ := gI_mem hp h0 h1
 have e := had_ren hp hf (x := n) (by omega) rows.length (Nat.le_refl _)
 rw [List.take_length] at e
 have e2 : gI perm (n : Int) = ((gI perm (n : Int)).toNat : Nat) := by omega
 rw [e2, gI_had (by omega), gI_had (by omega), e]
end

section

theorem flat_length {α : Type} : ∀ {ls : List (List α)}, (∀ l ∈ ls, l.length = 3) → ls.flatten.length = 3 * ls.length
 | [], _ => rfl
 | a :: ls, h => by
  have := flat_length (ls := ls) fun l hl => h l (List.mem_cons_of_mem _ hl)
  rw [List.flatten_cons, List.length_append, this, h a (by simp), List.length_cons]; omega
theorem flat_get {α : Type} : ∀ {ls : List (List α)}, (∀ l ∈ ls, l.length = 3) → ∀ i (hi : i < ls.length) j (_ : j < 3), ls.flatten[3 * i + j]? = ls[i][j]?
 | [], _, i, hi, _, _ => absurd hi (by simp)
 | a :: ls, h, 0, _, j, _ => by
  have ha := h a (by simp)
  rw [List.flatten_cons, List.getElem?_append_left (by omega)]
  simp
 | a :: ls, h, i + 1, hi, j, hj => by
  have ha := h a (by simp)
  rw [List.flatten_cons, List.getElem?_append_right (by omega), ha, show 3 * (i + 1) + j - 3 = 3 * i + j by omega]
  rw [flat_get (ls := ls) (fun l hl => h l (List.mem_cons_of_mem _ hl)) i (by simpa using hi) j hj]
  simp
theorem flat_set {α : Type} : ∀ {ls : List (List α)}, (∀ l ∈ ls, l.length = 3) → ∀ i (_ : i < ls.length) (a b c : α), (ls.set i [a, b, c]).flatten = ((ls.flatten.set (3 * i) a).set (3 * i + 1) b).set (3 * i + 2) c
 | [], _, i, hi, _, _, _ => absurd hi (by simp)
 | l :: ls, h, 0, _, a, b, c => by
  have hl := h l (by simp)
  match l, hl with
  | [x, y, z], _ => rfl
 | l :: ls, h, i + 1, hi, a, b, c => by
  have hl := h l (by simp)
  have ih := flat_set (ls := ls) (fun q hq => h q (List.mem_cons_of_mem _ hq)) i (by simpa using hi) a b c
  rw [List.set_cons_succ, List.flatten_cons, List.flatten_cons, ih]
  rw [List.set_append_right _ _ (by omega), List.set_append_right _ _ (by omega), List.set_append_right _ _ (by omega), hl]
  rw [show 3 * (i + 1) - 3 = 3 * i by omega, show 3 * (i + 1) + 1 - 3 = 3 * i + 1 by omega, show 3 * (i + 1) + 2 - 3 = 3 * i + 2 by omega]
end

section
open Go Go.RowKit Go.Shelf

def namL (perm l : List Int) : List Int := l.map fun (y : Int) => if 0 ≤ y ∧ y < (perm.length : Int) then gI perm y else -1
set_option maxHeartbeats 2000000 in
theorem r11names (S S2 : Nat → Prop) (v pv : Value) (l perm : List Int) (w : World) (h : RInts S w v l) (hp : RInts S2 w pv perm) (hl : l.length ≤ 1000000) :
  Calls Tryz.prog 89 #[v, pv] w (GivesI (namL perm l) w) := by
 obtain ⟨a, cap, rfl, h1, h2⟩ := RSl.shape h
 obtain ⟨pa, pc, rfl, -, -⟩ := RSl.shape hp
 have hH := fun W (hW : Below w.heap.size w W) => h.same (.of_below hW)
 have hP := fun W (hW : Below w.heap.size w W) => hp.same (.of_below hW)
 obtain ⟨P, hPe⟩ : ∃ P, perm.length = P := ⟨_, rfl⟩
 rw [hPe] at hP ⊢
 have HPe := Lib.hid hPe
 have HH := Lib.hid hH; have HP := Lib.hid hP
 clear hH h hP hp hPe
 go_enter Tryz.func89, Tryz.ntmps89
 go_wp2
 go_loopw [5, 6] (fun s i wr => ∃ k : Nat, k ≤ l.length ∧ i = .int .i64 k ∧ Hid (Own w.heap.size 3 1 (dInt .i64) wr s (namL perm (l.take k))) ∧ Below w.heap.size w wr) (fun _ i _ => l.length - (intOf i).toNat)
 case atStart => exact ⟨0, Nat.zero_le _, rfl, Lib.hid (Own.nil _ _ _ _ _), Below.refl _ _⟩
 case round =>
  obtain ⟨k, hk, rfl, hO, hb⟩ := hrel
  obtain ⟨ao, co, rfl⟩ := Own.shape hO.out
  have hz := hb.size
  by_cases hlt : k < l.length
  ·obtain ⟨b, off, c, rfl, hS, hbw, hc, hx⟩ := RSl.at1 (HH.out wr hb) k hlt
   obtain ⟨rfl, hwf⟩ := hx.open
   have hsl : (namL perm (l.take k)).length ≤ 1000000 := by rw [namL, List.length_map, List.length_take]; omega
   have hst : namL perm (l.take (k + 1)) = namL perm (l.take k) ++ [if 0 ≤ l[k] ∧ l[k] < perm.length then gI perm l[k] else -1] := by
    rw [List.take_succ_eq_append_getElem hlt, namL, List.map_append]; rfl
   obtain ⟨y, hy⟩ : ∃ y, l[k] = y := ⟨_, rfl⟩
   rw [hy] at hc hst
   rw [HPe.out] at hst
   have Hsl := Lib.hid hsl
   clear hsl hwf hy
   by_cases h0 : 0 ≤ y
   ·obtain ⟨yn, rfl⟩ : ∃ yn : Nat, y = yn := ⟨y.toNat, by omega⟩
    by_cases h1 : yn < P
    ·obtain ⟨pb, poff, cp, rfl, -, pbl, pcl, pd⟩ := RSl.at1 (HP.out wr hb) yn (by rw [HPe.out]; exact h1)
     obtain ⟨rfl, pwf⟩ := pd.open
     rw [if_pos ⟨h0, by omega⟩, gI_at (by rw [HPe.out]; exact h1)] at hst
     obtain ⟨pn, hpn⟩ : ∃ pn, perm[yn]'(by rw [HPe.out]; exact h1) = pn := ⟨_, rfl⟩
     rw [hpn] at pcl pwf hst
     have Hst := Lib.hid hst; have Hwf := Lib.hid pwf
     clear hst pwf hpn
     go_wp2_with (at_builtin; go_must (refine wpList_appI wr Tryz.infoInt rfl rfl Tryz.underlying25 w.heap.size hO.out rfl rfl Hwf.out Hsl.out hz ?_); intro a1 n1 c1 w1 ho1 hb1; have Ho1 := Lib.hid ho1; have Hb1 := Lib.hid (hb1 _ _ (Nat.le_refl _) hb); clear ho1 hb1)
     exact ⟨⟨k + 1, by omega, by go_num, Lib.hid (by rw [Hst.out]; exact Ho1.out), Hb1.out⟩, by simp [intOf]; omega⟩
    ·rw [if_neg (fun h => h1 (by omega))] at hst
     have Hst := Lib.hid hst; have Hwf := Lib.hid (show (Lit.int .i64 (-1)).wf = true from rfl)
     clear hst
     go_wp2_with (at_builtin; go_must (refine wpList_appI wr Tryz.infoInt rfl rfl Tryz.underlying25 w.heap.size hO.out rfl rfl Hwf.out Hsl.out hz ?_); intro a1 n1 c1 w1 ho1 hb1; have Ho1 := Lib.hid ho1; have Hb1 := Lib.hid (hb1 _ _ (Nat.le_refl _) hb); clear ho1 hb1)
     exact ⟨⟨k + 1, by omega, by go_num, Lib.hid (by rw [Hst.out]; exact Ho1.out), Hb1.out⟩, by simp [intOf]; omega⟩
   ·rw [if_neg (fun h => h0 h.1)] at hst
    have Hst := Lib.hid hst; have Hwf := Lib.hid (show (Lit.int .i64 (-1)).wf = true from rfl)
    clear hst
    have hy0 : ¬ (y ≥ 0) := h0
    go_wp2_with (at_builtin; go_must (refine wpList_appI wr Tryz.infoInt rfl rfl Tryz.underlying25 w.heap.size hO.out rfl rfl Hwf.out Hsl.out hz ?_); intro a1 n1 c1 w1 ho1 hb1; have Ho1 := Lib.hid ho1; have Hb1 := Lib.hid (hb1 _ _ (Nat.le_refl _) hb); clear ho1 hb1)
    exact ⟨⟨k + 1, by omega, by go_num, Lib.hid (by rw [Hst.out]; exact Ho1.out), Hb1.out⟩, by simp [intOf]; omega⟩
  ·obtain rfl : k = l.length := by omega
   have hO2 := hO.out
   rw [List.take_length] at hO2
   have HO2 := Lib.hid hO2
   clear hO2
   go_wp2
   go_ret
   rw [List.take_length]
   exact ⟨_, rfl, HO2.out, hb⟩
theorem r11Names (S S2 : Nat → Prop) (v pv : Value) (l perm : List Int) (w : World) (h : RInts S w v l) (hp : RInts S2 w pv perm) (hl : l.length ≤ 1000000) :
  Calls Tryz.prog 30 #[v, pv] w (GivesI (namL perm l) w) := by
 have HN := Lib.hid (r11names S S2 v pv l perm w h hp hl)
 clear h hp
 go_enter Tryz.func30, Tryz.ntmps30
 go_wp2_with (go_at_call 89; refine HN.out.mono ?_; rintro e w1 ⟨v1, rfl, ho, hb⟩)
 go_ret
 exact ⟨_, rfl, ho, hb⟩
end

section

def winL (had lot : List Int) (i : Nat) : Int := firstL lot (bestL (gI had) (seatSt had lot i).left)
theorem seat_succ (had lot : List Int) (i : Nat) : (seatSt had lot (i + 1)).elected = (seatSt had lot i).elected ++ [winL had lot i] := rfl
theorem seat_take (had lot : List Int) {i : Nat} : ∀ n, i ≤ n → (seatSt had lot n).elected.take i = (seatSt had lot i).elected
 | 0, h => by
  obtain rfl : i = 0 := by omega
  rfl
 | n + 1, h => by
  by_cases e : i = n + 1
  ·subst e
   exact List.take_of_length_le (by rw [seat_elected]; omega)
  ·rw [seat_succ, List.take_append_of_le_length (by rw [seat_elected]; omega)]
   exact seat_take had lot n (by omega)
theorem seat_get (had lot : List Int) {i n : Nat} (h : i < n) (hi : i < (seatSt had lot n).elected.length) : (seatSt had lot n).elected[i] = winL had lot i := by
 have h1 := seat_take had lot (i := i + 1) n (by omega)
 have h2 : ((seatSt had lot n).elected.take (i + 1))[i]? = some (seatSt had lot n).elected[i] := by rw [List.getElem?_take_of_lt (by omega), List.getElem?_eq_getElem hi]
 rw [h1, seat_succ, List.getElem?_append_right (by rw [seat_elected]; omega), seat_elected, Nat.sub_self] at h2
 simpa using h2.symm
section
variable {had lot : List Int} {n : Nat}
end
end

section

def amL (had lot : List Int) (j : Nat) : List Int := bestL (gI had) (seatSt had lot j).left
def tieR (had lot : List Int) (n : Nat) : List Nat := (List.range n).filter fun j => decide (1 < (amL had lot j).length)
theorem tieR_succ (had lot : List Int) (n : Nat) : tieR had lot (n + 1) = tieR had lot n ++ if 1 < (amL had lot n).length then [n] else [] := by
 rw [tieR, tieR, List.range_succ, List.filter_append]
 by_cases h : 1 < (amL had lot n).length <;> simp [h]
theorem ties_eq (had lot : List Int) : ∀ n, (seatSt had lot n).ties = (tieR had lot n).map fun j => ⟨amL had lot j, winL had lot j⟩
 | 0 => rfl
 | n + 1 => by
  have e : (seatSt had lot (n + 1)).ties = (seatSt had lot n).ties ++ tieL (amL had lot n) (winL had lot n) := rfl
  rw [e, ties_eq had lot n, tieR_succ, List.map_append, tieL]
  by_cases h : 1 < (amL had lot n).length
  ·rw [if_pos h, if_pos h]; rfl
  ·rw [if_neg h, if_neg h]; rfl
theorem tieR_mem {had lot : List Int} {n j : Nat} : j ∈ tieR had lot n ↔ j < n ∧ 1 < (amL had lot j).length := by
 simp [tieR, List.mem_filter]
theorem am_mem {had lot : List Int} {j : Nat} {x : Int} (h : x ∈ amL had lot j) : x ∈ (seatSt had lot j).left ∧ 0 ≤ x ∧ x < had.length ∧ ∀ y ∈ (seatSt had lot j).left, gI had y ≤ gI had x := by
 obtain ⟨h1, h2⟩ := qag.1 h
 have h3 := h1
 rw [seat_left] at h3
 have h4 := qaz.1 (List.mem_filter.1 h3).1
 exact ⟨h1, h4.1, h4.2, h2⟩
structure TieAt (had lot : List Int) (n : Nat) (t : Tie) (j : Nat) : Prop where
 lt : j < n
 two : 2 ≤ t.among.length
 first : firstL lot t.among = t.chosen
 win : t.chosen = winL had lot j
 cand : 0 ≤ t.chosen ∧ t.chosen < had.length
 range : ∀ k (h : k < t.among.length), 0 ≤ t.among[k] ∧ t.among[k] < had.length
 asc : ∀ k (h : k < t.among.length), 0 < k → t.among[k - 1] < t.among[k]
 pts : ∀ k (h : k < t.among.length), gI had t.among[k] = gI had t.chosen
theorem win_mem {had lot : List Int} {n j : Nat} (h : j < n) : winL had lot j ∈ (seatSt had lot n).elected := by
 have hl : j < (seatSt had lot n).elected.length := by rw [seat_elected]; exact h
 rw [← seat_get had lot h hl]
 exact List.getElem_mem hl
end

section

def zRt : Rt := ⟨false, [], []⟩
def renRnd (perm : List Int) (r : Rnd) : Rnd := ⟨permK zRt perm r.had r.had.length, r.lost, namL perm r.elected, namL perm r.out⟩
def renTie (perm : List Int) (t : Tie) : Tie := ⟨(rngI perm.length).filter fun y => (namL perm t.among).contains y, gI (namL perm [t.chosen]) 0⟩
def renO (perm : List Int) (o : Outc) : Outc := ⟨namL perm o.elected, o.rounds.map (renRnd perm), o.ties.map (renTie perm)⟩
theorem namL_in {perm l : List Int} {C : Nat} (hp : LotOf perm C) (h : ∀ x ∈ l, 0 ≤ x ∧ x < C) : namL perm l = l.map (gI perm) := by
 rw [namL]
 apply List.map_congr_left
 intro x hx
 rw [if_pos (by rw [hp.len]; exact h x hx)]
theorem lot_map {perm lot : List Int} {C : Nat} (hp : LotOf perm C) (hl : LotOf lot C) : LotOf (lot.map (gI perm)) C := by
 have hr : ∀ x ∈ lot, 0 ≤ x ∧ x < (C : Int) := fun x hx => (hl.all x).1 hx
 refine ⟨by rw [List.length_map, hl.len], fun y => ?_, nodup_ren hp hr hl.nodup⟩
 constructor
 ·exact fun h => map_bound hp hr y h
 ·rintro ⟨y0, y1⟩
  obtain ⟨x, x0, x1, rfl⟩ := img_surj hp y0 y1
  exact List.mem_map.2 ⟨x, (hl.all x).2 ⟨x0, x1⟩, rfl⟩
theorem singleI_lot {r : Nat} {p : Prof} {seats : Int} {lot lot2 : List Int} (h : singleI r p seats lot = 0) (h2 : lotB lot2 p.cands = true) : singleI r p seats lot2 = 0 := by
 unfold singleI countI at *
 split at h
 ·omega
 ·rename_i h1
  rw [if_neg h1]
  split at h
  ·omega
  ·rename_i h3
   rw [if_neg (fun q => h3 (by rcases q with q | q | q | q; exact .inl q; exact .inr (.inl q); exact .inr (.inr (.inl q)); rw [h2] at q; cases q))]
theorem single_ren {r : Nat} {c k : Int} {rows : List Row} {seats : Int} {lot perm : List Int} {C : Nat} (hC : c = C) (hp : LotOf perm C) (h : singleI r ⟨c, k, rows⟩ seats lot = 0) :
  singleI r ⟨c, k, renR k perm rows⟩ seats (namL perm lot) = 0 ∧ singleV r ⟨c, k, renR k perm rows⟩ seats (namL perm lot) = renO perm (singleV r ⟨c, k, rows⟩ seats lot) := by
 have hk := counted h
 have hl : LotOf lot C := by have := hk.lot; simp only [hC, Int.toNat_natCast] at this; exact this
 have hnl : namL perm lot = lot.map (gI perm) := namL_in hp fun x hx => (hl.all x).1 hx
 have h2 : singleI r ⟨c, k, renR k perm rows⟩ seats (namL perm lot) = 0 := by
  refine singleI_lot (single_sum h (chk_ren hC hp (chk_of_single h))) ?_
  rw [hnl]
  exact lotB_iff.2 ⟨by show 0 ≤ c; omega, by show LotOf _ c.toNat; rw [hC, Int.toNat_natCast]; exact lot_map hp hl⟩
 refine ⟨h2, ?_⟩
 rw [singleV, if_pos h2, singleV, if_pos h, hnl]
 have hkk : k = kindL r := hk.kind
 subst hkk
 have hfine : ∀ q ∈ rows, fineB ⟨kindL r, q.marks⟩ C = true := fun q hq => by have := hk.fine q hq; rw [← hC]; exact this
 have hcT : c.toNat = C := by omega
 have hseat := hk.seats
 simp only at hseat
 show oneO (hadL r (renR (kindL r) perm rows) c.toNat) (lostS r (renR (kindL r) perm rows)) seats.toNat (lot.map (gI perm)) = renO perm (oneO (hadL r rows c.toNat) (lostS r rows) seats.toNat lot)
 rw [hcT]
 have hf := hadL_ren (rule := r) hp hfine
 have hlost := lostS_ren (rule := r) (k := kindL r) (perm := perm) (rows := rows) rows.length (Nat.le_refl _)
 rw [List.take_length] at hlost
 obtain ⟨H, hH⟩ : ∃ H, hadL r rows C = H := ⟨_, rfl⟩
 obtain ⟨H2, hH2⟩ : ∃ H2, hadL r (renR (kindL r) perm rows) C = H2 := ⟨_, rfl⟩
 have e1 : H.length = C := by rw [← hH, hadL_length]
 have e2 : H2.length = C := by rw [← hH2, hadL_length]
 rw [hH, hH2] at hf ⊢
 obtain ⟨-, s2, s3⟩ := seat_ren hp e1 e2 hl hf seats.toNat (by omega)
 have hl' : LotOf lot H.length := by rw [e1]; exact hl
 have sf := (seat_facts hl' seats.toNat (by omega)).2.1
 rw [e1] at sf
 have n1 := namL_in hp sf
 have n0 : namL perm [] = [] := rfl
 rw [oneO, oneO, renO, s2, s3, hlost]
 simp only [List.map_cons, List.map_nil, renRnd, List.length_map, n0]
 rw [n1, e1, permK_all hp e1 e2 hf]
 congr 1
 apply List.map_congr_left
 intro t ht
 rw [ties_eq] at ht
 obtain ⟨j, hj, rfl⟩ := List.mem_map.1 ht
 have ha : ∀ x ∈ amL H lot j, 0 ≤ x ∧ x < (C : Int) := fun x hx => by
  have q := am_mem hx
  have q2 : x < (H.length : Int) := q.2.2.1
  rw [e1] at q2
  exact ⟨q.2.1, q2⟩
 have hw := sf _ (win_mem (had := H) (lot := lot) (tieR_mem.1 hj).1)
 have hw1 : namL perm [winL H lot j] = [gI perm (winL H lot j)] := namL_in hp (l := [winL H lot j]) fun x hx => by rw [List.mem_singleton.1 hx]; exact hw
 rw [tieRen, renTie]
 simp only
 rw [imgL, hp.len, namL_in hp ha, hw1]; rfl
end

section
open Go Go.RowKit Go.Shelf

def zC3 : List Value := [.bool false, .slice none 0 0, .slice none 0 0]
def chunks (cells : List Value) (n : Nat) : List (List Value) := (List.range n).map fun i => (cells.drop (i * 3)).take 3
theorem chunks_length (cells : List Value) (n : Nat) : (chunks cells n).length = n := by simp [chunks]
theorem chunks_three {cells : List Value} {n : Nat} (h : cells.length = n * 3) : ∀ l ∈ chunks cells n, l.length = 3 := by
 intro l hl
 obtain ⟨i, hi, rfl⟩ := List.mem_map.1 hl
 have hi' := List.mem_range.1 hi
 rw [List.length_take, List.length_drop, h]; omega
theorem permK_three {perm : List Int} {CL : List (List Value)} (h : ∀ l ∈ CL, l.length = 3) (k : Nat) : ∀ l ∈ permK zC3 perm CL k, l.length = 3 := by
 intro l hl
 obtain ⟨z, hz, rfl⟩ := List.mem_map.1 hl
 split
 ·rw [List.getD_eq_getElem?_getD]
  cases hq : CL[perm.idxOf (z : Int)]? with
  | none => rfl
  | some x => exact h x (List.mem_of_getElem? hq)
 ·rfl
theorem made_three (n : Nat) : madeCells #[.bool false, .slice none 0 0, .slice none 0 0] (n * 3) = ((List.replicate n zC3).flatten).toArray := by
 apply Array.ext'
 apply List.ext_getElem?
 intro i
 have h3 : ∀ l ∈ List.replicate n zC3, l.length = 3 := fun l hl => by rw [(List.mem_replicate.1 hl).2]; rfl
 have hfl := flat_length h3
 rw [List.length_replicate] at hfl
 have hsz : (madeCells #[.bool false, .slice none 0 0, .slice none 0 0] (n * 3)).toList.length = 3 * n := by simp [madeCells]; omega
 by_cases hi : i < 3 * n
 ·have h1 := flat_get h3 (i / 3) (by rw [List.length_replicate]; omega) (i % 3) (Nat.mod_lt _ (by omega))
  rw [Nat.div_add_mod] at h1
  rw [h1, List.getElem_replicate, List.getElem?_eq_getElem (by rw [hsz]; exact hi)]
  have hm : i % 3 = 0 ∨ i % 3 = 1 ∨ i % 3 = 2 := by omega
  have he : (madeCells #[.bool false, .slice none 0 0, .slice none 0 0] (n * 3)).toList[i]'(by rw [hsz]; exact hi) = (#[.bool false, .slice none 0 0, .slice none 0 0] : Array Value)[i % 3]! := by
   simp [madeCells]
  rw [he]
  rcases hm with hm | hm | hm <;> rw [hm] <;> rfl
 ·rw [List.getElem?_eq_none (by rw [hsz]; omega), List.getElem?_eq_none (by show _ ≤ i; rw [hfl]; omega)]
def HadB (w : World) (g : Nat) (perm : List Int) (CL : List (List Value)) (k : Nat) : Prop := w.heap[g]? = some (.cells ((permK zC3 perm CL k).flatten).toArray 56 (0, 0))
theorem HadB.start (w : World) (perm : List Int) (CL : List (List Value)) {n : Nat} (h : CL.length = n) : HadB (w.alloc (.cells (madeCells #[.bool false, .slice none 0 0, .slice none 0 0] (n * 3)) 56)) w.heap.size perm CL 0 := by
 unfold HadB
 rw [qa9, permK_zero, h, made_three]
theorem HadB.lt {w : World} {g : Nat} {perm : List Int} {CL : List (List Value)} {k : Nat} (h : HadB w g perm CL k) : g < w.heap.size := qa0 h
theorem HadB.cells {w : World} {g : Nat} {perm : List Int} {CL : List (List Value)} {k : Nat} (h : HadB w g perm CL k) (h3 : ∀ l ∈ CL, l.length = 3) {p : Nat} (hp : p < CL.length) :
  (w.cell? ⟨g, p * 3, none⟩).isSome = true ∧ (w.cell? ⟨g, p * 3 + 1, none⟩).isSome = true ∧ (w.cell? ⟨g, p * 3 + 2, none⟩).isSome = true := by
 have hl := flat_length (permK_three (perm := perm) h3 k)
 rw [qak] at hl
 have hc : ∀ j, j < 3 → (w.cell? ⟨g, p * 3 + j, none⟩).isSome = true := fun j hj => by
  unfold HadB at h
  have hlt : p * 3 + j < (permK zC3 perm CL k).flatten.length := by rw [hl]; omega
  rw [cell_of_row w g (p * 3 + j) _ _ (0, 0) h, List.getElem?_toArray, List.getElem?_eq_getElem hlt]; rfl
 exact ⟨hc 0 (by omega), hc 1 (by omega), hc 2 (by omega)⟩
theorem HadB.frozen {w : World} {g : Nat} {perm : List Int} {CL : List (List Value)} {k : Nat} (h : HadB w g perm CL k) (i : Nat) : w.frozen? ⟨g, i, none⟩ = false := by unfold HadB at h; simp [World.frozen?, h]
theorem HadB.below {w w' : World} {g : Nat} {perm : List Int} {CL : List (List Value)} {k : Nat} (h : HadB w g perm CL k) (hb : Below w.heap.size w w') : HadB w' g perm CL k := (hb.block g h.lt).trans h
theorem HadB.step {w : World} {g : Nat} {perm : List Int} {CL : List (List Value)} {k p : Nat} (h : HadB w g perm CL k) (hp : LotOf perm CL.length) (h3 : ∀ l ∈ CL, l.length = 3) (hk : k < CL.length) (hpk : gI perm (k : Int) = p) {a b c : Value} (he : CL[k] = [a, b, c]) :
  HadB (((w.setCell ⟨g, p * 3, none⟩ a).setCell ⟨g, p * 3 + 1, none⟩ b).setCell ⟨g, p * 3 + 2, none⟩ c) g perm CL (k + 1) := by
 have e := qa2 (o := p * 3 + 2) (qa2 (o := p * 3 + 1) (qa2 (o := p * 3) h a) b) c
 unfold HadB
 rw [e, permK_step hp hk, hpk, he, Int.toNat_natCast]
 have hpl : p < CL.length := by
  have := gI_mem hp (x := (k : Int)) (by omega) (by omega)
  rw [hpk] at this; omega
 rw [flat_set (permK_three (perm := perm) h3 k) p (by rw [qak]; exact hpl)]
 congr 2
 apply Array.ext'
 simp [Nat.mul_comm]
theorem gI_idx {perm : List Int} {C : Nat} (hp : LotOf perm C) {z : Nat} (hz : z < C) : perm.idxOf (z : Int) < C := (idx_lt hp (z := (z : Int)) (by omega) (by omega)).1
theorem HadB.done {S R : Nat → Prop} {w : World} {g C : Nat} {perm : List Int} {cells : List Value} {had : List Rt} (hC : had.length = C) (hl : LotOf perm C) (hd : Dec 3 (dRt S) w cells had) (hS : ∀ b, S b → R b) (hg : R g) (h : HadB w g perm (chunks cells C) C) (h10 : C ≤ 1000) :
  RRts R w (.slice (some ⟨g, 0, none⟩) C C) (permK zRt perm had C) := by
 have h3 := chunks_three (n := C) (by rw [hd.1, hC])
 have hp3 := permK_three (perm := perm) h3 C
 have hfl := flat_length hp3
 rw [qak, chunks_length] at hfl
 have hpl : (permK zRt perm had C).length = C := by rw [qak, hC]
 refine ⟨_, C, (permK zC3 perm (chunks cells C) C).flatten, by rw [hpl], by omega, by omega, ⟨by rw [hfl, hpl]; omega, fun z hz => ?_⟩, .inr ⟨g, 0, rfl, hg, fun j u hu => ?_⟩⟩
 ·rw [hpl] at hz
  have hi := gI_idx hl hz
  have e : (((permK zC3 perm (chunks cells C) C).flatten.drop (z * 3)).take 3) = (cells.drop (perm.idxOf (z : Int) * 3)).take 3 := by
   apply List.ext_getElem?
   intro j
   by_cases hj : j < 3
   ·rw [List.getElem?_take_of_lt hj, List.getElem?_drop, Nat.mul_comm z 3, flat_get hp3 z (by rw [qak, chunks_length]; exact hz) j hj, permK_get, if_pos hi]
    have hi2 : perm.idxOf (z : Int) < (chunks cells C).length := by rw [chunks_length]; exact hi
    have e1 : (chunks cells C).getD (perm.idxOf (z : Int)) zC3 = (cells.drop (perm.idxOf (z : Int) * 3)).take 3 := by
     rw [List.getD_eq_getElem?_getD, List.getElem?_eq_getElem hi2, Option.getD_some]; simp [chunks]
    rw [e1, List.getElem?_take_of_lt hj, List.getElem?_drop]
   ·rw [List.getElem?_eq_none (by rw [List.length_take]; omega), List.getElem?_eq_none (by rw [List.length_take]; omega)]
  rw [e, permK_get, if_pos hi, List.getD_eq_getElem?_getD, List.getElem?_eq_getElem (by rw [hC]; exact hi)]
  exact dRt.mono hS (hd.2 _ (by rw [hC]; exact hi))
 ·unfold HadB at h
  have := cell_of_row w g j _ _ (0, 0) h
  rw [Nat.zero_add, this]
  simpa using hu
theorem RSl.chunk {α : Type} {S : Nat → Prop} {dec : World → List Value → α → Prop} {w : World} {a : Option Addr} {n cap : Nat} {xs : List α} (h : RSl S 3 dec w (.slice a n cap) xs) :
  ∃ cells, Dec 3 dec w cells xs ∧ ∀ k, k < xs.length → ∃ b off d e f, a = some ⟨b, off, none⟩ ∧ b < w.heap.size ∧ w.cell? ⟨b, off + k * 3, none⟩ = some d ∧ w.cell? ⟨b, off + k * 3 + 1, none⟩ = some e ∧ w.cell? ⟨b, off + k * 3 + 2, none⟩ = some f ∧ (cells.drop (k * 3)).take 3 = [d, e, f] := by
 obtain ⟨a', cap', cells, hv, -, -, hD, h4⟩ := h
 simp only [Value.slice.injEq] at hv
 obtain ⟨rfl, rfl, rfl⟩ := hv
 refine ⟨cells, hD, fun k hk => ?_⟩
 rcases h4 with h4 | ⟨b, off, rfl, -, hc⟩
 ·subst h4; simp at hk
 have hl : k * 3 + 2 < cells.length := by rw [hD.1]; omega
 have hc2 : ∀ j, j < 3 → w.cell? ⟨b, off + k * 3 + j, none⟩ = cells[k * 3 + j]? := fun j hj => by
  rw [Nat.add_assoc, List.getElem?_eq_getElem (by omega)]
  exact hc _ _ (List.getElem?_eq_getElem (by omega))
 have e0 := hc2 0 (by omega)
 have e1 := hc2 1 (by omega)
 have e2 := hc2 2 (by omega)
 rw [List.getElem?_eq_getElem (by omega)] at e0 e1 e2
 refine ⟨b, off, _, _, _, rfl, qad e0, e0, e1, e2, ?_⟩
 rw [List.drop_eq_getElem_cons (by omega), List.drop_eq_getElem_cons (by omega), List.drop_eq_getElem_cons hl, List.take_succ_cons, List.take_succ_cons, List.take_succ_cons, List.take_zero]
 rfl
theorem chunks_at {cells : List Value} {n k : Nat} (hk : k < n) : (chunks cells n)[k]'(by rw [chunks_length]; exact hk) = (cells.drop (k * 3)).take 3 := by simp [chunks]
def Rz (g4 g5 : Nat) (w : World) (vr vt : Value) : Nat → Prop := fun b => b < w.heap.size ∧ b ≠ g4 ∧ b ≠ g5 ∧ some b ≠ vr.ownBlock ∧ some b ≠ vt.ownBlock
theorem Rz.up {g4 g5 : Nat} {w w' : World} {ve vt ve' vt' : Value} (hs : w.heap.size ≤ w'.heap.size) (he : ve'.ownBlock = ve.ownBlock ∨ ∃ b, ve'.ownBlock = some b ∧ w.heap.size ≤ b) (ht : vt'.ownBlock = vt.ownBlock ∨ ∃ b, vt'.ownBlock = some b ∧ w.heap.size ≤ b) : ∀ b, Rz g4 g5 w ve vt b → Rz g4 g5 w' ve' vt' b := fun b ⟨h1, h4, h5, h2, h3⟩ => by
 refine ⟨by omega, h4, h5, ?_, ?_⟩
 ·rcases he with e | ⟨c, e, hc⟩
  ·rw [e]; exact h2
  ·rw [e]; intro h; cases h; omega
 ·rcases ht with e | ⟨c, e, hc⟩
  ·rw [e]; exact h3
  ·rw [e]; intro h; cases h; omega
structure ROI (g4 g5 : Nat) (wS wr : World) (ve vr vt : Value) (el : List Int) (rs : List Rnd) (ts : List Tie) : Prop where
 bx : wr.heap[g5]? = some (.cells #[ve, vr, vt] 32 (0, 0))
 rd : Own (g5 + 1) 58 6 (dRnd (Rz g4 g5 wr vr vt)) wr vr rs
 ti : Own (g5 + 1) 115 2 (dTie (Rz g4 g5 wr vr vt)) wr vt ts
 el : RInts (Rz g4 g5 wr vr vt) wr ve el
 below : Below g5 wS wr
theorem tie_ne_rnd : 115 ≠ 58 := by decide
section
variable {g4 g5 : Nat} {wS wr w1 : World} {ve vr vt : Value} {el : List Int} {rs : List Rnd} {ts : List Tie}
theorem ROI.later (h : ROI g4 g5 wS wr ve vr vt el rs ts) (hb : Below wr.heap.size wr w1) : ROI g4 g5 wS w1 ve vr vt el rs ts := by
 have hu := Rz.up (g4 := g4) (g5 := g5) (ve := vr) (vt := vt) (ve' := vr) (vt' := vt) hb.size (.inl rfl) (.inl rfl)
 exact ⟨qb6 hb h.bx, Own.tmono famRnd hu (Own.below (famRnd.stable _) h.rd hb), Own.tmono famTie hu (Own.below (famTie.stable _) h.ti hb), (h.el.same (.of_below hb)).mono hu, h.below.trans (hb.mono (Nat.le_of_lt (qa0 h.bx)))⟩
theorem ROI.round (h : ROI g4 g5 wS wr ve vr vt el rs ts) {vr2 : Value} {rs2 : List Rnd} (h2 : Own (g5 + 1) 58 6 (dRnd (Rz g4 g5 wr vr vt)) w1 vr2 rs2) (hB : ∀ B W0, B ≤ g5 + 1 → Below B W0 wr → Below B W0 w1) (hg : wr.grownBy w1 vr.ownBlock)
  (hl : vr2.ownBlock = vr.ownBlock ∨ ∃ b, vr2.ownBlock = some b ∧ wr.heap.size ≤ b) : ROI g4 g5 wS (w1.setCell ⟨g5, 1, none⟩ vr2) ve vr2 vt el rs2 ts := by
 have hu := Rz.up (g4 := g4) (g5 := g5) (ve := vr) (vt := vt) (ve' := vr2) (vt' := vt) hg.size hl (.inl rfl)
 have hsz := qac w1 ⟨g5, 1, none⟩ vr2
 have hu2 : ∀ b, Rz g4 g5 w1 vr2 vt b → Rz g4 g5 (w1.setCell ⟨g5, 1, none⟩ vr2) vr2 vt b := fun b hb => by rw [Rz, hsz]; exact hb
 have hsm : Same (Rz g4 g5 wr vr vt) wr w1 := .of_grown hg fun b hb => hb.2.2.2.1
 have hs5 : ¬ Rz g4 g5 w1 vr2 vt g5 := fun hb => hb.2.2.1 rfl
 have hne : ∀ k, vt.ownBlock = some k → g5 + 1 ≤ k := fun k hk => (Own.lt h.ti k hk).1
 have h5 : w1.heap[g5]? = some (.cells #[ve, vr, vt] 32 (0, 0)) := (hg.block g5 (qa0 h.bx) (fun e => by have := (Own.lt h.rd g5 e.symm).1; omega)).trans h.bx
 refine ⟨by have := qa2 (o := 1) h5 vr2; simpa using this, ?_, ?_, ?_, ?_⟩
 ·exact Own.tmono famRnd hu2 (Own.setCell (S := Rz g4 g5 w1 vr2 vt) (famRnd.stable _) (Own.tmono famRnd hu h2) (p := ⟨g5, 1, none⟩) (by simp) hs5 vr2)
 ·have k := Own.kept (S := Rz g4 g5 wr vr vt) (famTie.stable _) h.ti hg (qav h.ti h.rd tie_ne_rnd).or hsm
  exact Own.tmono famTie hu2 (Own.setCell (S := Rz g4 g5 w1 vr2 vt) (famTie.stable _) (Own.tmono famTie hu k) (p := ⟨g5, 1, none⟩) (by simp) hs5 vr2)
 ·exact ((((h.el.same hsm).mono hu).same (S := Rz g4 g5 w1 vr2 vt) ((Same.refl _ _).setCell (p := ⟨g5, 1, none⟩) hs5 vr2))).mono hu2
 ·exact (hB _ _ (by omega) h.below).setCell (p := ⟨g5, 1, none⟩) (Nat.le_refl _) _
theorem ROI.tie (h : ROI g4 g5 wS wr ve vr vt el rs ts) {vt2 : Value} {ts2 : List Tie} (h2 : Own (g5 + 1) 115 2 (dTie (Rz g4 g5 wr vr vt)) w1 vt2 ts2) (hB : ∀ B W0, B ≤ g5 + 1 → Below B W0 wr → Below B W0 w1) (hg : wr.grownBy w1 vt.ownBlock)
  (hl : vt2.ownBlock = vt.ownBlock ∨ ∃ b, vt2.ownBlock = some b ∧ wr.heap.size ≤ b) : ROI g4 g5 wS (w1.setCell ⟨g5, 2, none⟩ vt2) ve vr vt2 el rs ts2 := by
 have hu := Rz.up (g4 := g4) (g5 := g5) (ve := vr) (vt := vt) (ve' := vr) (vt' := vt2) hg.size (.inl rfl) hl
 have hsz := qac w1 ⟨g5, 2, none⟩ vt2
 have hu2 : ∀ b, Rz g4 g5 w1 vr vt2 b → Rz g4 g5 (w1.setCell ⟨g5, 2, none⟩ vt2) vr vt2 b := fun b hb => by rw [Rz, hsz]; exact hb
 have hsm : Same (Rz g4 g5 wr vr vt) wr w1 := .of_grown hg fun b hb => hb.2.2.2.2
 have hs5 : ¬ Rz g4 g5 w1 vr vt2 g5 := fun hb => hb.2.2.1 rfl
 have h5 : w1.heap[g5]? = some (.cells #[ve, vr, vt] 32 (0, 0)) := (hg.block g5 (qa0 h.bx) (fun e => by have := (Own.lt h.ti g5 e.symm).1; omega)).trans h.bx
 refine ⟨by have := qa2 (o := 2) h5 vt2; simpa using this, ?_, ?_, ?_, ?_⟩
 ·have k := Own.kept (S := Rz g4 g5 wr vr vt) (famRnd.stable _) h.rd hg (qav h.rd h.ti tie_ne_rnd.symm).or hsm
  exact Own.tmono famRnd hu2 (Own.setCell (S := Rz g4 g5 w1 vr vt2) (famRnd.stable _) (Own.tmono famRnd hu k) (p := ⟨g5, 2, none⟩) (by simp) hs5 vt2)
 ·exact Own.tmono famTie hu2 (Own.setCell (S := Rz g4 g5 w1 vr vt2) (famTie.stable _) (Own.tmono famTie hu h2) (p := ⟨g5, 2, none⟩) (by simp) hs5 vt2)
 ·exact ((((h.el.same hsm).mono hu).same (S := Rz g4 g5 w1 vr vt2) ((Same.refl _ _).setCell (p := ⟨g5, 2, none⟩) hs5 vt2))).mono hu2
 ·exact (hB _ _ (by omega) h.below).setCell (p := ⟨g5, 2, none⟩) (Nat.le_refl _) _
end
theorem run_make3 {P : Program} (t e : TypeId) (bytes : Nat) (ht : P.underlying t = some (.slice e)) (hinfo : (P.info? e).map (fun i => (i.zero, i.size, i.bytes)) = some (some (.agg #[.bool false, .slice none 0 0, .slice none 0 0]), 3, bytes))
  (kl kc : IntKind) (n : Nat) (hbytes : bytes * n ≤ 281474976710656) (h63 : n ≤ 9223372036854775807) (w : World) :
  (Instr.makeSlice t (.int kl (n : Int)) (.int kc (n : Int))).run P w = .ok (.slice (some ⟨w.heap.size, 0, none⟩) n n) (w.alloc (.cells (madeCells #[.bool false, .slice none 0 0, .slice none 0 0] (n * 3)) e)) := by
 obtain ⟨i, hi, hzz⟩ := Option.map_eq_some_iff.1 hinfo
 simp only [Prod.mk.injEq] at hzz
 obtain ⟨hz, hs, hb⟩ := hzz
 have hb' : (i.bytes : Int) * (n : Int) ≤ 281474976710656 := by
  have h : ((i.bytes * n : Nat) : Int) ≤ 281474976710656 := by rw [hb]; omega
  rwa [Int.natCast_mul] at h
 have hr := run_make (P := P) w t e i _ ht hi hz kl kc n n (by omega) (Int.le_refl _) hb' (by omega)
 simp only [Int.toNat_natCast, hs] at hr
 exact hr
section
variable {g4 g5 : Nat} {wS wr w1 : World} {ve vr vt : Value} {el : List Int} {rs : List Rnd} {ts : List Tie}
theorem ROI.low (h : ROI g4 g5 wS wr ve vr vt el rs ts) (h45 : g4 < g5) {b : Nat} (hb : b < g4) : Rz g4 g5 wr vr vt b := by
 have := qa0 h.bx
 exact ⟨by omega, by omega, by omega, fun e => by have := (Own.lt h.rd b e.symm).1; omega, fun e => by have := (Own.lt h.ti b e.symm).1; omega⟩
theorem ROI.high (h : ROI g4 g5 wS wr ve vr vt el rs ts) (h45 : g4 < g5) {b : Nat} (hb : wr.heap.size ≤ b) (hb1 : b < w1.heap.size) : Rz g4 g5 w1 vr vt b := by
 have := qa0 h.bx
 exact ⟨hb1, by omega, by omega, fun e => by have := (Own.lt h.rd b e.symm).2; omega, fun e => by have := (Own.lt h.ti b e.symm).2; omega⟩
theorem ROI.fresh (h : ROI g4 g5 wS wr ve vr vt el rs ts) (h45 : g4 < g5) {u : Value} {l : List Int} (hu : Own wr.heap.size 3 1 (dInt .i64) w1 u l) (hl : l.length ≤ 1000000) : RInts (Rz g4 g5 w1 vr vt) w1 u l :=
 RSl.mono (fun _ _ _ h => h) (fun b hb => h.high h45 hb.1 hb.2) (RSl.cut (by omega) (fun _ _ h => h) (Own.rsl hu (by omega)))
theorem ROI.grown (h : ROI g4 g5 wS wr ve vr vt el rs ts) {row : Option Nat} (hg : wr.grownBy w1 row) (hr : ∀ k, row = some k → g5 + 1 ≤ k) : w1.heap[g5]? = some (.cells #[ve, vr, vt] 32 (0, 0)) :=
 (hg.block g5 (qa0 h.bx) (fun e => by have := hr g5 e.symm; omega)).trans h.bx
end
theorem dRt.cut {S : Nat → Prop} {w : World} {cs : List Value} {x : Rt} (h : dRt S w cs x) : dRt (Cut S w.heap.size) w cs x := let ⟨a, b, h1, h2, h3⟩ := h; ⟨a, b, h1, h2.cut, h3.cut⟩
theorem RRts.cut {S : Nat → Prop} {w : World} {v : Value} {xs : List Rt} (h : RRts S w v xs) : RRts (Cut S w.heap.size) w v xs := RSl.cut (by omega) (fun _ _ h => h.cut) h
theorem dTie.cut {S : Nat → Prop} {w : World} {cs : List Value} {x : Tie} (h : dTie S w cs x) : dTie (Cut S w.heap.size) w cs x := let ⟨v, h1, h2, h3⟩ := h; ⟨v, h1, h2, h3.cut⟩
theorem RTies.cut {S : Nat → Prop} {w : World} {v : Value} {xs : List Tie} (h : RTies S w v xs) : RTies (Cut S w.heap.size) w v xs := RSl.cut (by omega) (fun _ _ h => h.cut) h
theorem dRnd.cut {S : Nat → Prop} {w : World} {cs : List Value} {x : Rnd} (h : dRnd S w cs x) : dRnd (Cut S w.heap.size) w cs x := let ⟨v0, vn, vd, v1, v2, h1, h2, h3, h4, h5, h6⟩ := h; ⟨v0, vn, vd, v1, v2, h1, h2.cut, h3.cut, h4.cut, h5.cut, h6.cut⟩
theorem RRnds.cut {S : Nat → Prop} {w : World} {v : Value} {xs : List Rnd} (h : RRnds S w v xs) : RRnds (Cut S w.heap.size) w v xs := RSl.cut (by omega) (fun _ _ h => h.cut) h
theorem VOutc.cut {S : Nat → Prop} {w : World} {v : Value} {o : Outc} (h : VOutc S w v o) : VOutc (Cut S w.heap.size) w v o := let ⟨v1, v2, v3, h1, h2, h3, h4⟩ := h; ⟨v1, v2, v3, h1, h2.cut, h3.cut, h4.cut⟩
section
variable {P : Program} (w : World)
theorem step_appF {α : Type} {z : Value} {size bytes : Nat} {ops : Array Oper} {o : Oper} {a : Act} {K : Act → World → Prop} {Q : Exit → Act → World → Prop} {E : Prop} {e t : TypeId} (hinfo : (P.info? e).map (fun i => (i.zero, i.size, i.bytes)) = some (some z, size, bytes))
  (hgd : o.guard = none) {s x : Operand} (ho : o.op = .call { callee := .builtin .append, args := #[s, x], argTypes := #[t, t] }) (ht : P.underlying t = some (.slice e))
  (hzs : z.cells.size = size ∧ 0 < size ∧ 0 < bytes ∧ bytes ≤ 1000) {dec : World → List Value → α → Prop} {S : Nat → Prop} (h1 : OneC dec) (hst : Stable S dec) (base : Nat)
  {v : Value} {xs : List α} (hown : Own base e size dec w v xs) (hSv : ∀ b, S b → some b ≠ v.ownBlock) (hs : a.eval s = v) {cs : List Value} {y : α} (hl : cs.length = size) (hy : dec w cs y)
  (hx : a.eval x = .slice (some ⟨w.heap.size, 0, none⟩) 1 1) (h63 : xs.length ≤ 1000000) (hbase : base ≤ w.heap.size)
  (h : ∀ a' n' c' w', Own base e size dec w' (.slice a' n' c') (xs ++ [y]) → (∀ B W0, B ≤ base → Below B W0 w → Below B W0 w') → w.grownBy w' v.ownBlock →
   ((Value.slice a' n' c').ownBlock = v.ownBlock ∨ ∃ b, (Value.slice a' n' c').ownBlock = some b ∧ w.heap.size ≤ b) → K (a.put o.dst (.slice a' n' c')) w') :
  if Region.wanted o (yielded ops a.tmps) = true then Oper.wp P o a (w.alloc (.cells cs.toArray e)) K Q else E := by
 have hO := Own.below (S := S) hst hown (qa1 w (.cells cs.toArray e))
 refine step_appV (w.alloc (.cells cs.toArray e)) hinfo hgd ho ht ⟨hzs.1, hzs.2.1, hzs.2.2.1⟩ h1 hst base hO hs (RSl.built (w' := w.alloc (.cells cs.toArray e)) (cs := cs) (x := y) (Nat.zero_le _) (qa9 w _) hl (hst _ _ _ _ (.of_below (qa1 _ _)) hy)) hx ?_ (by simp; omega) ?_
 ·have h1 : (xs.length + 1) * bytes ≤ 1000001 * 1000 := Nat.mul_le_mul (by omega) hzs.2.2.2
  simp only [List.length_cons, List.length_nil, Nat.zero_add]
  omega
 ·intro a' n' c' w' hg hat ho'
  refine h a' n' c' w' (ho' (.of_grown hg hSv)) (fun B W0 hB hW => ?_) ((World.grownBy_alloc w _ _).trans hg) ?_
  ·exact (hW.alloc (by omega) _).grown hg (by simp; omega) (fun k e => by have := (Own.lt hO k e).1; omega)
  ·rcases hat with e | e
   ·exact .inl e
   ·exact .inr ⟨_, e, by simp⟩
end
end

section
open Go

theorem la (a : Act) (t : Nat) (v : Value) : a.put (some t) v = { a with tmps := a.tmps.setIfInBounds t v } := rfl
theorem lb {α : Type} (l : List α) (i : Nat) (v : α) : l.toArray.setIfInBounds i v = (l.set i v).toArray := List.setIfInBounds_toArray ..
theorem lc {α : Type} (x y : α) (l : List α) : (x :: l).set 0 y = y :: l := rfl
theorem ld {α : Type} (x y : α) (l : List α) (n : Nat) : (x :: l).set (n + 1) y = x :: l.set n y := rfl
theorem lf {α : Type} (l : List α) (i : Nat) (h : i < l.toArray.size) : l.toArray[i] = l[i]'h := rfl
theorem lg {α : Type} (x : α) (l : List α) (h : 0 < (x :: l).length) : (x :: l)[0]'h = x := rfl
theorem lh {α : Type} (x : α) (l : List α) (n : Nat) (h : n + 1 < (x :: l).length) : (x :: l)[n + 1]'h = l[n]'(Nat.lt_of_succ_lt_succ h) := rfl
section
variable {P : Program} {md : Region.Mode} {ops : Array Oper} {Q : Exit → Act → World → Prop} {S : World → Prop} {L : List Nat}
theorem tk {fuel : Nat} {listed : Array Bool} {a : Act} {w : World} {oi : Oper} (i : Nat) (v : Value) (hi : ops[i]? = some oi) (hS : S w)
  (hy : ∀ w, S w → (execOp a.eval oi).run P w = .ok (.value v) w) (h : wpAnyL P md ops Q S L fuel (listed.setIfInBounds i true) (a.put oi.dst v) w)
  (hs : Region.noSelect ops = true := by kernel_rfl) (hf : Region.free md ops listed i = true := by kernel_rfl) (hr : (Region.ready md ops listed).contains i = true := by kernel_rfl) (hL : waits md ops L i = true := by kernel_rfl)
  (hQ : ∀ c a w, Q (.panic c) (a.put oi.dst v) w → Q (.panic c) a w := by exact fun _ _ _ h => h) (hw : Region.wanted oi (yielded ops a.tmps) = true := by kernel_rfl) : wpAnyL P md ops Q S L (fuel + 1) listed a w :=
 wpAnyL_take hi hs hf hr hL hQ (Or.inl ⟨hw, hy⟩) hS h
end
end

section
open Go Go.RowKit Go.Shelf

set_option maxHeartbeats 2000000 in
theorem balTurned (S : Nat → Prop) (v : Value) (perm : List Int) (C : Nat) (w : World) (h : RInts S w v perm) (hp : LotOf perm C) (h1 : 1 ≤ C) (h2 : C ≤ 10) :
  Calls Tryz.prog 147 #[v] w fun e w' => e = .returned (.bool true) ∧ Below w.heap.size w w' := by
 obtain ⟨a, cap, rfl, -, -⟩ := RSl.shape h
 have hlen := hp.len
 have hB : lotB perm C = true := lotB_iff.2 ⟨by omega, hp⟩
 have hspec := lotB_sort perm C
 rw [hB, eq_comm, Bool.and_eq_true] at hspec
 have hat : ∀ j (h : j < (sortI perm).length), (sortI perm)[j] = (j : Int) := of_decide_eq_true hspec.1
 have hb0 := qa1 w (.cells #[.slice a perm.length cap] 25)
 have hS := slSorted S w.heap.size (.slice a perm.length cap) perm (w.alloc (.cells #[.slice a perm.length cap] 25)) (h.same (.of_below hb0)) (by omega) (qa9 w _)
 have hsl : (sortI perm).length = perm.length := qaj perm
 obtain ⟨ss, hss⟩ : ∃ ss, sortI perm = ss := ⟨_, rfl⟩
 rw [hss] at hS hat hsl
 rw [hlen] at hS hsl hb0 ⊢
 have HS := Lib.hid hS; have Hat := Lib.hid hat; have Hsl := Lib.hid hsl
 have hc1 : (1 : Int) ≤ C := by omega
 have hc2 : (C : Int) < 11 := by omega
 clear hS hat hsl h hss hspec hB hlen hp
 go_enter Tryz.func147, Tryz.ntmps147
 go_wp2_with (first
  | (go_at_call 159; refine (within_t _ _ _ _ hc1 hc2).mono ?_; rintro e w1 ⟨rfl, rfl⟩)
  | (go_at_call 181; refine (slValues _ _ _ _).mono ?_; rintro e w1 ⟨rfl, rfl⟩)
  | (go_at_call 180; refine HS.out.mono ?_; rintro e w2 ⟨v2, rfl, ho, hb⟩; obtain ⟨a2, m2, c2, rfl⟩ := Own.slice ho; obtain rfl : m2 = C := (Own.len ho).trans Hsl.out; have HR : Hid (RInts Any w2 (.slice a2 m2 c2) ss) := Lib.hid (RSl.mono (fun _ _ _ h => h) (fun _ _ => trivial) (Own.rsl ho (by rw [Hsl.out]; omega))); clear ho))
 have hbw := hb0.trans (hb.mono (by simp))
 have Hbw := Lib.hid hbw
 clear hb0 hb hbw
 go_loop [4, 14] (fun _ i => ∃ k : Nat, k ≤ m2 ∧ i = .int .i64 k) (fun _ i => m2 - (intOf i).toNat)
 case atStart => exact ⟨0, Nat.zero_le _, rfl⟩
 case round =>
  obtain ⟨k, hk, rfl⟩ := hrel
  by_cases hlt : k < m2
  ·obtain ⟨b, off, c, rfl, -, hbl, hcl, hd⟩ := RSl.at1 HR.out k (by rw [Hsl.out]; exact hlt)
   obtain ⟨rfl, hwf⟩ := hd.open
   rw [Hat.out k (by rw [Hsl.out]; exact hlt)] at hcl
   clear hwf
   go_wp2
   go_round
   case rel => exact ⟨k + 1, by omega, by go_num⟩
   case measure => simp [intOf]; omega
  ·obtain rfl : k = m2 := by omega
   clear hk
   go_wp2
   go_ret
   exact ⟨rfl, Hbw.out⟩
end

section
open Go Go.RowKit Go.Shelf

theorem Arr.madeR (w : World) (n : Nat) (e : TypeId) : Arr .i64 (w.alloc (.cells (madeCells #[.int .i64 0] n) e)) w.heap.size e (List.replicate n 0) := by
 unfold Arr
 rw [qa9]
 congr 2
 apply Array.ext'
 rw [toList_madeCells_one]
 simp
theorem box2R {W w1 : World} {g : Nat} {a b : Value} {e : TypeId} (hg : W.heap[g]? = some (.cells #[a, b] e (0, 0))) (hb : Below W.heap.size W w1) : w1.cell? ⟨g, 0, none⟩ = some a ∧ w1.cell? ⟨g, 1, none⟩ = some b ∧ g < w1.heap.size := by
 obtain ⟨h1, h2, -⟩ := qa5 hb (qa0 hg) hg
 exact ⟨h2 0, h2 1, qa0 h1⟩
theorem RInts.aside {g b : Nat} {w : World} {v x y : Value} {xs : List Int} (h : RInts (From g) w v xs) (hb : b < g) {n : Nat} (hn : n ≤ g) : RInts (fun b => n ≤ b) ((w.setCell ⟨b, 0, none⟩ x).setCell ⟨b, 1, none⟩ y) v xs :=
 RSl.mono (fun _ _ _ h => h) (fun _ hb => Nat.le_trans hn hb) (RInts.same (S := From g) (fun z _ hz => (Below.heap_setCell _ ⟨b, 1, none⟩ y z (by have : g ≤ z := hz; simp; omega)).trans (Below.heap_setCell _ ⟨b, 0, none⟩ x z (by have : g ≤ z := hz; simp; omega))) h)
theorem VBlt.mkR {S : Nat → Prop} {w : World} {k : Int} {v : Value} {m : List Int} (h0 : 0 ≤ k ∧ k ≤ 255) (h : RInts S w v m) : VBlt S w (.agg #[.int .u8 k, v]) ⟨k, m⟩ := ⟨_, _, rfl, _, rfl, h0.1, h0.2, h⟩
def RenBox (w2 : World) (k : Int) (L : Nat) (s6 : Value) (wc : World) : Prop := ∃ gB g : Nat, s6 = .pointer (some ⟨gB, 0, none⟩) ∧ w2.heap.size ≤ gB ∧ w2.heap.size ≤ g ∧ g ≠ gB ∧ wc.heap[gB]? = some (.cells #[.int .u8 k, .slice (some ⟨g, 0, none⟩) L L] 61 (0, 0)) ∧ Arr .i64 wc g 3 (List.replicate L 0) ∧ Below w2.heap.size w2 wc
theorem RenBox.a (w2 : World) (k : Int) (L : Nat) : RenBox w2 k L (.pointer (some ⟨w2.heap.size + 1, 0, none⟩)) ((w2.alloc (.cells (madeCells #[.int .i64 0] L) 3)).alloc (.cells #[.int .u8 k, .slice (some ⟨w2.heap.size, 0, none⟩) L L] 61)).drew := by
 refine ⟨_, w2.heap.size, rfl, by omega, by omega, by omega, ?_, ?_, ?_⟩
 ·show ((w2.alloc _).alloc _).heap[_]? = _
  rw [← World.size_alloc w2 (.cells (madeCells #[.int .i64 0] L) 3), qa9]
 ·exact (Arr.madeR w2 L 3).below (qa1 _ _).drew
 ·exact ((qa1 w2 _).alloc (by simp) _).drew
theorem RenBox.b (w2 : World) (k : Int) (L : Nat) : RenBox w2 k L (.pointer (some ⟨w2.heap.size, 0, none⟩)) ((w2.alloc (.cells #[.int .u8 k, .slice (some ⟨w2.heap.size + 1, 0, none⟩) L L] 61)).alloc (.cells (madeCells #[.int .i64 0] L) 3)).drew := by
 refine ⟨_, w2.heap.size + 1, rfl, by omega, by omega, by omega, ?_, ?_, ?_⟩
 ·show ((w2.alloc _).alloc _).heap[_]? = _
  exact ((qa1 _ _).block _ (by simp)).trans (qa9 w2 _)
 ·have := Arr.madeR (w2.alloc (.cells #[.int .u8 k, .slice (some ⟨w2.heap.size + 1, 0, none⟩) L L] 61)) L 3
  rw [World.size_alloc] at this
  exact this
 ·exact ((qa1 w2 _).alloc (by simp) _).drew
theorem slSort2 (g : Nat) (xs : List Int) (w : World) (h : Arr .i64 w g 3 xs) (hw : ∀ x ∈ xs, (Lit.int .i64 x).wf = true) (hl : xs.length ≤ 1000000) :
  Calls Tryz.prog 149 #[.slice (some ⟨g, 0, none⟩) xs.length xs.length] w fun e w' => e = .returned (.tuple #[]) ∧ RInts (From g) w' (.slice (some ⟨g, 0, none⟩) xs.length xs.length) (sortI xs) ∧ w.grownBy w' (some g) := by
 have hO : Own g 3 1 (dInt .i64) w (.slice (some ⟨g, 0, none⟩) xs.length xs.length) xs := Own.ofInts ⟨by simp, .inr ⟨g, xs.length, _, rfl, Nat.le_refl _, h, Nat.le_refl _, by simp [maxLen]; omega, by simp, by rw [Nat.mul_one, List.take_of_length_le (by simp)]⟩⟩ hw
 rcases hO.cur with ⟨h1, -⟩ | ⟨g', cap, cur, he, hbg, hg, h1, h2, h3, h4, h5⟩
 ·cases h1
 ·simp only [Value.slice.injEq, Option.some.injEq, Addr.mk.injEq, and_true, true_and] at he
  obtain ⟨rfl, rfl⟩ := he
  refine (Tryz.slices_Sort_int g 0 xs.length xs w (holds_of_blockI hg h4) (qa0 hg) (by omega)).mono ?_
  rintro e w' ⟨rfl, n, os, rfl⟩
  have hgr := grownBy_sortedI (w := w) (g := g) (n := n) (os := os) (sortI xs).toArray
  have hrow := ownsRow_sortedI (ts := sortI xs) (ss := xs) (n := n) (os := os) (qaj xs) hbg hg h1 h2 h3
  rw [← qaj xs] at hrow
  have hO := Own.ofInts hrow (fun x hx => h5 x ((qba xs).mem_iff.1 hx))
  have hR := Own.rsl hO (by rw [qaj]; omega)
  rw [qaj] at hR
  exact ⟨rfl, hR, hgr⟩
def RenGives (k : Int) (m : List Int) (n : Nat) (w : World) (e : Ending) (w' : World) : Prop :=
 ∃ a c, e = .returned (.tuple #[.agg #[.int .u8 k, .slice a n c], .int .i64 0]) ∧ RInts (fun b => w.heap.size ≤ b) w' (.slice a n c) m ∧ Below w.heap.size w w'
set_option maxHeartbeats 4000000 in
set_option maxRecDepth 100000 in
theorem balRename (S S2 : Nat → Prop) (bv pv : Value) (x : Blt) (perm : List Int) (C : Nat) (w : World) (h : VBlt S w bv x) (hp : RInts S2 w pv perm) (hl : LotOf perm C) (h1 : 1 ≤ C) (h2 : C ≤ 10) (hf : checkB x C = 0) :
  Calls Tryz.prog 79 #[bv, pv] w (RenGives x.kind (renM x.kind perm x.marks) x.marks.length w) := by
 obtain ⟨k, M⟩ := x
 dsimp only at *
 have h0 := h
 obtain ⟨cc, d, rfl, hB⟩ := h
 obtain ⟨a, cap, rfl, rfl, -, hk0, hk1, hR⟩ := hB.open
 obtain ⟨pa, pc, rfl, -, -⟩ := RSl.shape hp
 have hml : M.length ≤ 10 := (checkB_marks hf).1
 have hfine : fineB ⟨k, M⟩ C = true := by
  cases hh : fineB ⟨k, M⟩ C
  ·simp [checkB, hh] at hf; omega
  ·rfl
 obtain ⟨L, hL⟩ : ∃ L, M.length = L := ⟨_, rfl⟩
 have hb0 := qa1 w (.cells #[.int .u8 k, .slice a L cap] 61)
 have hb1 : Below w.heap.size w ((w.alloc (.cells #[.int .u8 k, .slice a L cap] 61)).alloc (.cells #[.int .u8 0, .slice none 0 0] 61)) := hb0.alloc (by simp) _
 have hT := balTurned S2 (.slice pa perm.length pc) perm C _ (hp.same (.of_below hb1)) hl h1 h2
 have hlen := hl.len
 rw [hL] at h0 hR
 rw [hlen] at hp hT
 have hF := fun W hW => fine_any S _ ⟨k, M⟩ C W (h0.same (.of_below (w' := W) hW)) (by omega)
 rw [hfine] at hF
 rw [hL, hlen]
 have HT := Lib.hid hT; have HF := Lib.hid hF; have HR := Lib.hid hR; have HP := Lib.hid hp; have HL := Lib.hid hL; have Hml := Lib.hid hml; have Hlen := Lib.hid hlen; have Hl := Lib.hid hl; have Hfine := Lib.hid hfine; have Hb1 := Lib.hid hb1
 have HCK := Lib.hid hf
 have hmk := run_make_row' (P := Tryz.prog) 25 3 (.int .i64 0) 8 Tryz.underlying25 Tryz.infoInt rfl .i64 .i64 L (by omega) (by omega)
 have hL10 : L ≤ 10 := by omega
 clear hT hF hR hp hL hml hlen hl hfine hb0 hb1 h0 hB hf
 obtain ⟨W1, hW1⟩ : ∃ W1, W1 = (w.alloc (.cells #[.int .u8 k, .slice a L cap] 61)).alloc (.cells #[.int .u8 0, .slice none 0 0] 61) := ⟨_, rfl⟩
 have hg0 : W1.heap[w.heap.size]? = some (.cells #[.int .u8 k, .slice a L cap] 61 (0, 0)) := by
  rw [hW1]; exact ((qa1 _ _).block _ (by simp)).trans (qa9 w _)
 have hg1 : W1.heap[w.heap.size + 1]? = some (.cells #[.int .u8 0, .slice none 0 0] 61 (0, 0)) := by
  rw [hW1, ← World.size_alloc w (.cells #[.int .u8 k, .slice a L cap] 61), qa9]
 have hs1 : W1.heap.size = w.heap.size + 2 := by rw [hW1]; simp
 rw [← hW1] at HT Hb1
 have G0 := Lib.hid hg0; have G1 := Lib.hid hg1; have HW1 := Lib.hid hW1; have Hs1 := Lib.hid hs1
 clear hg0 hg1 hW1 hs1
 go_enter Tryz.func79, Tryz.ntmps79
 have st0 := Lib.hid True.intro
 go_wp2_with (first
  | (have := st1; go_at_call 148; clear st1; refine (HF.out _ (bt Hb1.out C1.out)).mono ?_; rintro e w2 ⟨rfl, hb⟩; have C2 := Lib.hid (bt C1.out hb); obtain ⟨q4, q5, q6⟩ := box2R G0.out (bt C1.out hb); clear hb; have st2 := Lib.hid True.intro; clear this)
  | (have := st0; go_at_call 147; clear st0; rw [← HW1.out]; refine HT.out.mono ?_; rintro e w1 ⟨rfl, hb⟩; have C1 := Lib.hid hb; obtain ⟨q1, q2, q3⟩ := box2R G0.out hb; clear hb; have st1 := Lib.hid True.intro; clear this))
 have hb2 := bt Hb1.out C2.out
 have hs2 : w.heap.size + 2 ≤ w2.heap.size := by have := C2.out.size; have := Hs1.out; omega
 have H2 := Lib.hid hb2
 go_cut [6] from 9 (fun s6 wc => RenBox w2 k L s6 wc)
 case first =>
  go_region_law (fail)
  all_goals
   go_wp2_with fail
   go_meet
   first
   | exact RenBox.a w2 k L
   | exact RenBox.b w2 k L
 case rest =>
  obtain ⟨gB, g, rfl, hgB, hg, hne, hbox, hA, hbc⟩ := hcut
  obtain ⟨q7, q8, q9⟩ := box2R G0.out (bt C2.out hbc)
  have hA0 : Arr .i64 wc g 3 (renK k perm M 0) := by rw [renK_zero, HL.out]; exact hA
  have HA0 := Lib.hid hA0; have Hbox := Lib.hid hbox; have Hbc := Lib.hid hbc
  have HBM := Lib.hid (checkB_marks HCK.out).2
  have hpm : ∀ m ∈ perm, 0 ≤ m ∧ m ≤ 10 := fun m hm => by have := (Hl.out.all m).1 hm; omega
  have Hpm := Lib.hid hpm
  clear hbox hA hbc hA0 hpm
  go_wp2
  go_loopw [7, 8, 29] (fun _ _ i wr => ∃ j : Nat, j ≤ L ∧ i = .int .i64 j ∧ Hid (Arr .i64 wr g 3 (renK k perm M j)) ∧ Hid (wr.heap[gB]? = some (.cells #[.int .u8 k, .slice (some ⟨g, 0, none⟩) L L] 61 (0, 0))) ∧ Hid (Below w2.heap.size w2 wr)) (fun _ _ i _ => L - (intOf i).toNat)
  case atStart => exact ⟨0, Nat.zero_le _, rfl, HA0, Hbox, Hbc⟩
  case round =>
   obtain ⟨j, hj, rfl, HA, HB, Hb⟩ := hrel
   obtain ⟨r1, r2, r3⟩ := box2R G0.out (bt C2.out Hb.out)
   obtain ⟨r4, r5, r6⟩ := box2R HB.out (Below.refl _ wr)
   have hgl := HA.out.lt
   by_cases hlt : j < L
   ·have hjM : j < M.length := by rw [HL.out]; exact hlt
    obtain ⟨b, off, c, rfl, -, hbl, hcl, hd⟩ := RSl.at1 (HR.out.same (.of_below (bt H2.out Hb.out))) j hjM
    obtain ⟨rfl, hwf⟩ := hd.open
    by_cases hk3 : k = 3
    ·subst hk3
     obtain rfl : C = L := by rw [← HL.out]; exact (fine_sco Hfine.out rfl).symm
     have hjp : j < perm.length := by rw [Hlen.out]; exact hlt
     obtain ⟨pb, poff, cp, rfl, -, pbl, pcl, pd⟩ := RSl.at1 (HP.out.same (.of_below (bt H2.out Hb.out))) j hjp
     obtain ⟨rfl, pwf⟩ := pd.open
     obtain ⟨t0, t1⟩ := gI_mem Hl.out (x := (j : Int)) (by omega) (by omega)
     have hgj := gI_at hjp
     obtain ⟨pn, hpn⟩ : ∃ pn : Nat, gI perm (j : Int) = pn := ⟨(gI perm (j : Int)).toNat, by omega⟩
     rw [← hgj, hpn] at pcl pwf
     have hpC : pn < C := by omega
     have hc1 := HA.out.cell (i := pn) (by rw [renK_length _ _ _ (by omega), HL.out]; exact hpC)
     have hc2 := HA.out.frozen pn
     have hst : Arr .i64 (wr.setCell ⟨g, pn, none⟩ (.int .i64 M[j])) g 3 (renK 3 perm M (j + 1)) := by
      rw [sco_step (by rw [HL.out]; exact Hl.out) hjM, hpn]; exact HA.out.set pn _
     have HS := Lib.hid hst
     obtain ⟨mv, hmv⟩ : ∃ mv, M[j] = mv := ⟨_, rfl⟩
     rw [hmv] at hcl hwf HS
     have d1 : (pn : Int) < C := by omega
     clear hgj hpn hst hmv t0 t1
     go_wp2
     go_region_law (fail)
     all_goals
      go_wp2
      exact ⟨⟨j + 1, by omega, by go_num, HS, Lib.hid ((Below.heap_setCell _ _ _ _ (fun e => hne e.symm)).trans HB.out), Lib.hid (Hb.out.setCell (p := ⟨g, pn, none⟩) hg _).drew⟩, by simp [intOf]; omega⟩
    ·have hk3b : (k == 3) = false := by simpa using hk3
     obtain ⟨m0, m1⟩ := fine_nam Hfine.out hk3 M[j] (List.getElem_mem _)
     obtain ⟨mn, hmn⟩ : ∃ mn : Nat, M[j] = mn := ⟨M[j].toNat, by omega⟩
     have hmC : mn < C := by omega
     have hjp : mn < perm.length := by rw [Hlen.out]; exact hmC
     obtain ⟨pb, poff, cp, rfl, -, pbl, pcl, pd⟩ := RSl.at1 (HP.out.same (.of_below (bt H2.out Hb.out))) mn hjp
     obtain ⟨rfl, pwf⟩ := pd.open
     have hc1 := HA.out.cell (i := j) (by rw [renK_length _ _ _ (by omega), HL.out]; exact hlt)
     have hc2 := HA.out.frozen j
     have hst : Arr .i64 (wr.setCell ⟨g, j, none⟩ (.int .i64 perm[mn])) g 3 (renK k perm M (j + 1)) := by
      rw [nam_step hk3 hjM, hmn, gI_at hjp]; exact HA.out.set j _
     have HS := Lib.hid hst
     obtain ⟨mv, hmv⟩ : ∃ mv, perm[mn] = mv := ⟨_, rfl⟩
     rw [hmv] at pcl pwf HS
     rw [hmn] at hcl hwf
     have d1 : (mn : Int) < C := by omega
     clear hst hmv hmn m0 m1 hk3
     go_wp2
     go_region_law (fail)
     all_goals
      go_wp2
      exact ⟨⟨j + 1, by omega, by go_num, HS, Lib.hid ((Below.heap_setCell _ _ _ _ (fun e => hne e.symm)).trans HB.out), Lib.hid (Hb.out.setCell (p := ⟨g, j, none⟩) hg _).drew⟩, by simp [intOf]; omega⟩
   ·obtain rfl : j = L := by omega
    have hln := renK_length k perm M (k := j) (by rw [HL.out]; exact Nat.le_refl _)
    rw [HL.out] at hln
    have hwf : ∀ y ∈ renK k perm M j, (Lit.int .i64 y).wf = true := fun y hy => by
     have := renK_bound (by omega) HBM.out Hpm.out j y hy
     exact WalkArith.wf_i64 (by omega)
    obtain ⟨o1, o2, o3⟩ := box2R G1.out (bt C2.out Hb.out)
    have hbw := bt H2.out Hb.out
    by_cases hk2 : k = 2
    ·subst hk2
     have hSo := slSort2 g (renK 2 perm M j) wr HA.out hwf (by omega)
     rw [hln] at hSo
     have hM2 : renM 2 perm M = sortI (renK 2 perm M j) := by rw [renM, if_pos rfl, HL.out]
     have HSo := Lib.hid hSo; have HM2 := Lib.hid hM2; have Hbw := Lib.hid hbw
     clear hSo hM2 hwf hln hlt hbw
     have st5 := Lib.hid True.intro
     go_wp2_with (have := st5; go_at_call 149; clear st5; refine HSo.out.mono ?_; rintro e w5 ⟨rfl, hR5, hg5⟩; have HR5 := Lib.hid hR5; have Hg5 := Lib.hid hg5; clear hR5 hg5; obtain ⟨y1, y2, y3⟩ := box2R ((Hg5.out.block gB (qa0 HB.out) (by simpa using fun e => hne e.symm)).trans HB.out) (Below.refl _ w5); obtain ⟨y4, y5, y6⟩ := box2R ((Hg5.out.block (w.heap.size + 1) o3 (by simp; omega)).trans ((bt C2.out Hb.out).block _ (qa0 G1.out) |>.trans G1.out)) (Below.refl _ w5); have y7 := (qa5 (Below.refl _ w5) y6 ((Hg5.out.block (w.heap.size + 1) o3 (by simp; omega)).trans ((bt C2.out Hb.out).block _ (qa0 G1.out) |>.trans G1.out))).2.2; clear this)
     refine bodyPost_ret (v := .tuple #[.agg #[.int .u8 2, .slice (some ⟨g, 0, none⟩) j j], .int .i64 0]) (by simp [results, Tryz.results79, go_sem, y4, y5]) rfl ⟨_, _, rfl, ?_, ?_⟩
     ·rw [HM2.out]; exact RInts.aside HR5.out (by omega) (by omega)
     ·exact ((Hbw.out.grown Hg5.out (by omega) (fun k e => by simp at e; omega)).setCell (p := ⟨w.heap.size + 1, 0, none⟩) (by simp) _).setCell (p := ⟨w.heap.size + 1, 1, none⟩) (by simp) _
    ·have hk2b : (k == 2) = false := by simpa using hk2
     have hM2 : renM k perm M = renK k perm M j := by rw [renM, if_neg hk2, HL.out]
     have hR5 : RInts (From g) wr (.slice (some ⟨g, 0, none⟩) j j) (renK k perm M j) := HA.out.all (S := From g) (Nat.le_refl _) hwf (by omega) hln.symm (Nat.le_refl _)
     have HR5 := Lib.hid hR5; have HM2 := Lib.hid hM2; have Hbw := Lib.hid hbw
     clear hR5 hM2 hwf hln hlt hbw hk2
     have y7 := (qa5 (bt C2.out Hb.out) (qa0 G1.out) G1.out).2.2
     go_wp2
     refine bodyPost_ret (v := .tuple #[.agg #[.int .u8 k, .slice (some ⟨g, 0, none⟩) j j], .int .i64 0]) (by simp [results, Tryz.results79, go_sem, o1, o2]) rfl ⟨_, _, rfl, ?_, ?_⟩
     ·rw [HM2.out]; exact RInts.aside HR5.out (by omega) (by omega)
     ·exact (Hbw.out.setCell (p := ⟨w.heap.size + 1, 0, none⟩) (by simp) _).setCell (p := ⟨w.heap.size + 1, 1, none⟩) (by simp) _
end

section
open Go Go.RowKit Go.Shelf

set_option maxHeartbeats 1000000 in
theorem renFn (S S2 : Nat → Prop) (a : Option Addr) (cap : Nat) (k : Int) (M : List Int) (pv : Value) (perm : List Int) (C pb : Nat) (w : World) (h : VBlt S w (.agg #[.int .u8 k, .slice a M.length cap]) ⟨k, M⟩) (hp : RInts S2 w pv perm) (hl : LotOf perm C) (h1 : 1 ≤ C) (h2 : C ≤ 10) (hf : checkB ⟨k, M⟩ C = 0)
  (hg : w.heap[pb]? = some (.cells #[pv] 25 (0, 0))) :
  Calls Tryz.prog 81 #[.agg #[.int .u8 k, .slice a M.length cap], .pointer (some ⟨pb, 0, none⟩)] w (RenGives k (renM k perm M) M.length w) := by
 obtain ⟨pa, pc, rfl, -, -⟩ := RSl.shape hp
 obtain ⟨L, hL⟩ : ∃ L, M.length = L := ⟨_, rfl⟩
 obtain ⟨P, hP⟩ : ∃ P, perm.length = P := ⟨_, rfl⟩
 obtain ⟨W1, hW1⟩ : ∃ W1, W1 = (w.alloc (.cells #[.int .u8 k, .slice a L cap] 61)).alloc (.cells #[.int .u8 0, .slice none 0 0] 61) := ⟨_, rfl⟩
 have hb1 : Below w.heap.size w W1 := by rw [hW1]; exact (qa1 w _).alloc (by simp) _
 have hs1 : W1.heap.size = w.heap.size + 2 := by rw [hW1]; simp
 have hR := balRename S S2 _ _ ⟨k, M⟩ perm C W1 (h.same (.of_below hb1)) (hp.same (.of_below hb1)) hl h1 h2 hf
 dsimp only at hR
 obtain ⟨RM, hRM⟩ : ∃ RM, renM k perm M = RM := ⟨_, rfl⟩
 rw [hRM, hL, hP] at hR
 rw [hP] at hg
 rw [hRM, hL]
 have hg1 : W1.heap[w.heap.size + 1]? = some (.cells #[.int .u8 0, .slice none 0 0] 61 (0, 0)) := by
  rw [hW1, ← World.size_alloc w (.cells #[.int .u8 k, .slice a L cap] 61), qa9]
 obtain ⟨-, kc, -⟩ := qa5 hb1 (qa0 hg) hg
 have kp := kc 0
 rw [hW1] at kp
 have hpl := qa0 hg
 have HR := Lib.hid hR; have Hb1 := Lib.hid hb1; have Hs1 := Lib.hid hs1; have HW1 := Lib.hid hW1; have G1 := Lib.hid hg1
 clear hR hb1 hs1 hW1 hg1 h hp hl hf hg hL hP hRM kc
 go_enter Tryz.func81, Tryz.ntmps81
 go_wp2_with (go_at_call 79; rw [← HW1.out]; refine HR.out.mono ?_; rintro e w2 ⟨a2, c2, rfl, hr, hb⟩; have HR2 := Lib.hid hr; have HB2 := Lib.hid hb; obtain ⟨-, y1, y2⟩ := qa5 hb (qa0 G1.out) G1.out; clear hr hb)
 refine bodyPost_ret (v := .tuple #[.agg #[.int .u8 k, .slice a2 L c2], .int .i64 0]) (by simp [results, Tryz.results81, go_sem, y1]) rfl ⟨a2, c2, rfl, RInts.aside (g := W1.heap.size) HR2.out (by have := Hs1.out; omega) (by have := Hs1.out; omega), ?_⟩
 exact ((bt Hb1.out HB2.out).setCell (p := ⟨w.heap.size + 1, 0, none⟩) (by simp) _).setCell (p := ⟨w.heap.size + 1, 1, none⟩) (by simp) _
theorem Held.self {S : Nat → Prop} {s e : Nat} {c k : Int} {rows : List Row} {a : Option Addr} {n cap : Nat} {w W : World} (h : Held S s e c k rows a n cap w W) (hS : ∀ b, S b → b < s) (hse : s < e) :
  Held S s e c k rows a n cap w (((W.setCell ⟨s, 0, none⟩ (.int .i64 c)).setCell ⟨s, 1, none⟩ (.int .u8 k)).setCell ⟨s, 2, none⟩ (.slice a n cap)) := by
 have hnT : ¬ TT S e s := fun h => by
  rcases h with h | h
  ·have := hS _ h; omega
  ·omega
 have hne : some s ≠ (Value.slice a n cap).ownBlock := fun q => by have := (Own.lt h.own _ q.symm).1; omega
 refine ⟨?_, ((h.own.setCell hnT hne 0 _).setCell hnT hne 1 _).setCell hnT hne 2 _, ((h.below.setCell (p := ⟨s, 0, none⟩) (by simp) _).setCell (p := ⟨s, 1, none⟩) (by simp) _).setCell (p := ⟨s, 2, none⟩) (by simp) _, by rw [qac, qac, qac]; exact h.size⟩
 rw [qa2 (qa2 (qa2 h.box _) _) _]
 simp
theorem held_new {s : Nat} {c k : Int} {w0 w1 : World} {S : Nat → Prop} (_ : s = w0.heap.size) (h1 : Below s w0 w1) (_ : s < w1.heap.size) {x y : Value} (hg : w1.heap[s]? = some (.cells #[x, y, .slice none 0 0] 24 (0, 0))) :
  Held S s w1.heap.size c k [] none 0 0 w0 (((w1.setCell ⟨s, 0, none⟩ (.int .i64 c)).setCell ⟨s, 1, none⟩ (.int .u8 k)).setCell ⟨s, 2, none⟩ (.slice none 0 0)) := by
 refine ⟨?_, Own.nil _ _ _ _ _, ((h1.setCell (p := ⟨s, 0, none⟩) (by simp) _).setCell (p := ⟨s, 1, none⟩) (by simp) _).setCell (p := ⟨s, 2, none⟩) (by simp) _, by rw [qac, qac, qac]; exact Nat.le_refl _⟩
 rw [qa2 (qa2 (qa2 hg _) _) _]
 simp
end

section
open Go Go.RowKit Go.Shelf

set_option maxHeartbeats 4000000 in
set_option maxRecDepth 100000 in
theorem profTurned (S S2 : Nat → Prop) (c k : Int) (rows : List Row) (u pv : Value) (perm : List Int) (C pb : Nat) (w : World) (h1 : VProf S w u ⟨c, k, rows⟩) (g1 : chkP ⟨c, k, rows⟩ = 0) (hp : RInts S2 w pv perm) (hl : LotOf perm C) (hC : c = C) (hg : w.heap[pb]? = some (.cells #[pv] 25 (0, 0))) :
  Calls Tryz.prog 80 #[u, .func (.func 81) #[] #[.pointer (some ⟨pb, 0, none⟩)]] w fun e w' => ∃ a cap, e = .returned (.tuple #[.agg #[.int .i64 c, .int .u8 k, .slice a (renR k perm rows).length cap], .int .i64 0]) ∧ VProf (fun b => w.heap.size ≤ b) w' (.agg #[.int .i64 c, .int .u8 k, .slice a (renR k perm rows).length cap]) ⟨c, k, renR k perm rows⟩ ∧ Below w.heap.size w w' := by
 have hv1 := chkP_zero.1 g1
 have h10 := h1
 obtain ⟨a1, c1, rfl, hk1, hk2, hR⟩ := h1
 simp only at h10 hk1 hk2 hR
 have hmany : ∀ r ∈ rows, 0 < r.many ∧ r.many ≤ 1000000 := fun r hr => hv1.many r hr
 have hl1 : rows.length ≤ 64 := hv1.rows
 have hc10 : 1 ≤ C ∧ C ≤ 10 := by have := hv1.new; simp only at this; omega
 have hlt0 := qa0 hg
 obtain ⟨w0, hw0⟩ : ∃ w0, w0 = w.alloc (.cells #[.int .i64 c, .int .u8 k, .slice a1 rows.length c1] 24) := ⟨_, rfl⟩
 have hb00 : Below w.heap.size w w0 := by rw [hw0]; exact qa1 w _
 have hs0 : w0.heap.size = w.heap.size + 1 := by rw [hw0]; simp
 obtain ⟨W0, hW0⟩ : ∃ W0, W0 = w0.alloc (.cells #[.int .i64 0, .int .u8 0, .slice none 0 0] 24) := ⟨_, rfl⟩
 have hb01 : Below w0.heap.size w0 W0 := by rw [hW0]; exact qa1 w0 _
 have hz0 : W0.heap.size = w.heap.size + 2 := by rw [hW0]; simp [hs0]
 have x0 : w0.heap[w.heap.size]? = some (.cells #[.int .i64 c, .int .u8 k, .slice a1 rows.length c1] 24 (0, 0)) := by rw [hw0]; exact qa9 _ _
 have x1 : W0.heap[w.heap.size + 1]? = some (.cells #[.int .i64 0, .int .u8 0, .slice none 0 0] 24 (0, 0)) := by rw [hW0, ← hs0]; exact qa9 _ _
 have hCh := profCheck S _ ⟨c, k, rows⟩ W0 (h10.same (.of_below (bt hb00 hb01)))
 rw [g1] at hCh
 have hx0 : ∀ W, Below w0.heap.size w0 W → (∀ i, W.cell? ⟨w.heap.size, i, none⟩ = (#[.int .i64 c, .int .u8 k, .slice a1 rows.length c1] : Array Value)[i]?) ∧ w.heap.size < W.heap.size := fun W hW => by
  obtain ⟨y1, y2, y3⟩ := qa5 hW (qa0 x0) x0
  exact ⟨y2, qa0 y1⟩
 have hN := fun w1 (hW : Below W0.heap.size W0 w1) => held_new (s := w.heap.size + 1) (c := c) (k := k) (w0 := w0) (w1 := w1) (S := fun _ => False) hs0.symm (by rw [← hs0]; exact hb01.trans (hW.mono (by omega))) (by have := hW.size; omega) (x := .int .i64 0) (y := .int .u8 0) (qa5 hW (by omega) x1).1
 have hasc := fun i hi => renR_spec k perm (rows := rows) (fun r hr => (hmany r hr).1) i hi
 have hren := fun W (hW : Below w0.heap.size w0 W) (i : Nat) (hi : i < rows.length) (a6 : Option Addr) (c6 : Nat) (hI : RInts S W (.slice a6 rows[i].marks.length c6) rows[i].marks) =>
  renFn S S2 a6 c6 k rows[i].marks pv perm C pb W (VBlt.mkR ⟨hk1, hk2⟩ hI) (hp.same (.of_below (bt hb00 hW))) hl hc10.1 hc10.2 (by have := hv1.fit _ (List.getElem_mem hi); rw [← hC]; exact this) (((bt hb00 hW).block _ hlt0).trans hg)
 have hPut := fun e a n cap W i (hi : i < rows.length) mv (Tm : Nat → Prop) (hW : Held (fun _ => False) (w.heap.size + 1) e c k (renR k perm (rows.take i)) a n cap w0 W) (he : w.heap.size + 1 < e) (hm : RInts Tm W mv (renM k perm rows[i].marks)) =>
  profPut (TT (fun _ => False) e) Tm e (w.heap.size + 1) c k _ mv (renR k perm (rows.take i)) (renM k perm rows[i].marks) rows[i].many W hW.box he hW.size hW.own (fun h => by rcases h with h | h; exact h; omega) (fun b hb => .inr (by have := hW.size; omega)) ⟨hk1, hk2⟩ (hasc i (by omega)).1
   hm (by have := (hv1.marks _ (List.getElem_mem hi)); rw [ren_length]; omega) (by have := (hasc i (by omega)).2.2.1; omega) (fun r hr => by
    have q0 := hasc i (by omega)
    have q1 := row_le q0.1 r hr
    have q2 := q0.2.1
    have q3 := sumR_takeL (fun r hr => (hmany r hr).1) (b := rows) i
    have q4 := q0.1.many r hr
    have q5 : sumR rows ≤ 1000000 := hv1.sum
    omega) (by have := hmany _ (List.getElem_mem hi); omega)
 have hPut2 : ∀ (e : Nat) (a : Option Addr) (n cap : Nat) (W w4 : World) (i : Nat) (hi : i < rows.length), Held (fun _ => False) (w.heap.size + 1) e c k (renR k perm (rows.take i)) a n cap w0 W → w.heap.size + 1 < e → ∀ a' n' cap', w4.heap[w.heap.size + 1]? = some (.cells #[.int .i64 c, .int .u8 k, .slice a' n' cap'] 24 (0, 0)) → OwnT (TT (fun _ => False) e) e w4 (.slice a' n' cap') (putR (renR k perm (rows.take i)) (renM k perm rows[i].marks) rows[i].many) → PutFrame (w.heap.size + 1) e W w4 →
   Held (fun _ => False) (w.heap.size + 1) e c k (renR k perm (rows.take (i + 1))) a' n' cap' w0 w4 := fun e a n cap W w4 i hi h3 he a' n' cap' hb ho hf => ⟨hb, by rw [renR_take hi]; exact ho, h3.below.trans (hf.under (Nat.le_refl _) (by omega)), by have := hf.2.2.2.1; have := h3.size; omega⟩
 have hEnd : ∀ e a n cap W, Held (fun _ => False) (w.heap.size + 1) e c k (renR k perm (rows.take rows.length)) a n cap w0 W → w.heap.size + 1 < e → n = (renR k perm rows).length ∧ VProf (fun b => w.heap.size ≤ b) W (.agg #[.int .i64 c, .int .u8 k, .slice a (renR k perm rows).length cap]) ⟨c, k, renR k perm rows⟩ ∧ Below w.heap.size w W := fun e a n cap W hW he => by
  rw [List.take_length] at hW
  have hn := hW.n
  subst hn
  have hlen := (hasc rows.length (Nat.le_refl _)).2.2.1
  rw [List.take_length] at hlen
  exact ⟨rfl, ⟨a, cap, rfl, hk1, hk2, hW.own.rslT (by omega) _ (fun b hb => by rcases hb with h | h; exact h.elim; exact (by omega)) (fun b hb => by omega)⟩, by have := hW.below; rw [← hs0] at this; exact bt hb00 this⟩
 have HCh := Lib.hid hCh; have HX0 := Lib.hid hx0; have HN := Lib.hid hN; have HRen := Lib.hid hren; have HPut := Lib.hid hPut; have HPut2 := Lib.hid hPut2; have HEnd := Lib.hid hEnd; have HB00 := Lib.hid hb00; have HB01 := Lib.hid hb01; have Hs0 := Lib.hid hs0; have Hz0 := Lib.hid hz0; have HW0 := Lib.hid hW0; have Hw0 := Lib.hid hw0; have HR := Lib.hid hR; have X1 := Lib.hid x1
 clear hCh hx0 hN hren hPut hPut2 hEnd hb00 hb01 hs0 hz0 hW0 hw0 hR x0 x1 h10 hasc hmany hv1 hp hl hg g1 hlt0 hC hc10
 have eg : ∀ args w, (callFunc 81 args).run Tryz.prog w = .ok (.enter 81 args) w := enters_of Tryz.func81 (by kernel_rfl) rfl
 go_enter Tryz.func80, Tryz.ntmps80
 go_wp2_with (go_at_call 70; rw [← Hw0.out, ← HW0.out]; refine HCh.out.mono ?_; rintro e w1 ⟨rfl, hb⟩; obtain ⟨k0, l0⟩ := HX0.out w1 (HB01.out.trans (hb.mono (HB01.out.size))); obtain ⟨-, k1, l1⟩ := qa5 hb (qa0 X1.out) X1.out; have hH := HN.out w1 hb; have HH := Lib.hid hH; have HB1 := Lib.hid hb; clear hH hb)
 have hz1 : w.heap.size + 1 < w1.heap.size := by have := HB1.out.size; have := Hz0.out; omega
 clear k0 l0 k1 l1
 go_loopw [24] (fun i wr => ∃ (kk : Nat) (a : Option Addr) (n cap : Nat), kk ≤ rows.length ∧ i = .int .i64 kk ∧ Hid (Held (fun _ => False) (w.heap.size + 1) w1.heap.size c k (renR k perm (rows.take kk)) a n cap w0 wr)) (fun i _ => rows.length - (intOf i).toNat)
 case atStart => exact ⟨0, none, 0, 0, Nat.zero_le _, rfl, HH⟩
 case round =>
  obtain ⟨kk, a, n, cap, hkk, rfl, hH⟩ := hrel
  have hbl : Below w0.heap.size w0 wr := by rw [Hs0.out]; exact hH.out.below
  have Hbl := Lib.hid hbl
  obtain ⟨m0, ml⟩ := HX0.out wr hbl
  clear hbl
  by_cases hlt : kk < rows.length
  ·obtain ⟨b5, off5, x5, y5, rfl, -, hbw5, hc5, hd5, hy⟩ := RSl.at2 (HR.out.same (.of_below (bt HB00.out Hbl.out))) kk hlt
   obtain ⟨a6, cap6, rfl, rfl, hl6, -, hI6⟩ := hy.open
   obtain ⟨N, hN6⟩ : ∃ N, rows[kk].many = N := ⟨_, rfl⟩
   obtain ⟨L6, hL6⟩ : ∃ L6, rows[kk].marks.length = L6 := ⟨_, rfl⟩
   rw [hL6] at hI6 hc5 hl6
   rw [hN6] at hd5
   obtain ⟨Wr, hWr⟩ : ∃ Wr, Wr = wr.alloc (.cells #[.slice a6 L6 cap6, .int .i64 N] 66) := ⟨_, rfl⟩
   have hnw : Below wr.heap.size wr Wr := by rw [hWr]; exact qa1 wr _
   have hg6 : Wr.heap[wr.heap.size]? = some (.cells #[.slice a6 L6 cap6, .int .i64 N] 66 (0, 0)) := by rw [hWr]; exact qa9 _ _
   have hsz := hH.out.size
   have hRn := fun W (hW : Below Wr.heap.size Wr W) => HRen.out W (bt Hbl.out (bt hnw hW)) kk hlt a6 cap6 (by rw [hL6]; exact RInts.same (.of_below (bt hnw hW)) hI6)
   have hPt := fun W mv Tm (hW : Below Wr.heap.size Wr W) hm => HPut.out w1.heap.size a n cap W kk hlt mv Tm (hH.out.step (bt hnw hW) (by omega)) (by omega) hm
   rw [hL6] at hRn
   rw [hN6] at hPt
   have HRn := Lib.hid hRn; have HPt := Lib.hid hPt; have Hnw := Lib.hid hnw; have G6 := Lib.hid hg6; have HWr := Lib.hid hWr; have Hd5 := Lib.hid hN6
   clear hy hI6 hnw hRn hPt hg6 hWr hN6 hL6
   have st1 := Lib.hid True.intro
   go_wp2_with (first
    | (have := st1; go_at_call 135; clear st1; rw [← HWr.out]; refine (profOf _ _ _ _ _ _ _ _ _ _).mono ?_; rintro e w3 ⟨rfl, hb3⟩; have HB3 := Lib.hid hb3; clear hb3; have st2 := Lib.hid True.intro; clear this)
    | (have := st2; go_at_fn 81; clear st2; refine (HRn.out w3 HB3.out).mono ?_; rintro e w5 ⟨a7, c7, rfl, hR7, hb5⟩; have HR7 := Lib.hid hR7; have HB5 := Lib.hid (bt HB3.out hb5); obtain ⟨z0, z1, z2⟩ := qa5 (bt HB3.out hb5) (qa0 G6.out) G6.out; have zl := qa0 z0; clear hR7 hb5 z0; have st3 := Lib.hid True.intro; clear this)
    | (have := st3; go_at_call 150; clear st3; refine (HPt.out _ _ _ (bt HB5.out (qa1 w5 _)) (RInts.same (.of_below (qa1 w5 _)) HR7.out)).mono ?_; rintro e w8 ⟨⟨u0, rfl⟩, a8, n8, cap8, hb8, ho8, hf8⟩; have hH8 := HPut2.out _ _ _ _ _ _ kk hlt (hH.out.step (bt Hnw.out (bt HB5.out (qa1 w5 _))) (by omega)) (by omega) _ _ _ hb8 (by rw [Hd5.out]; exact ho8) hf8; have HH8 := Lib.hid hH8; clear hH8 ho8 hf8 hb8; clear this))
   exact ⟨⟨kk + 1, a8, n8, cap8, by omega, by go_num, HH8⟩, by simp [intOf]; omega⟩
  ·have hke : kk = rows.length := by omega
   subst hke
   obtain ⟨e1, e2, e3⟩ := HEnd.out _ _ _ _ _ (hH.out.self (fun _ h => h.elim) hz1) hz1
   obtain ⟨-, y1, y2⟩ := qa5 (Below.refl _ wr) (qa0 hH.out.box) hH.out.box
   have yl := qa0 hH.out.box
   have E1 := Lib.hid e1; have E2 := Lib.hid e2; have E3 := Lib.hid e3
   clear e1 e2 e3 hlt hkk
   go_wp2
   refine bodyPost_ret (v := .tuple #[.agg #[.int .i64 c, .int .u8 k, .slice a n cap], .int .i64 0]) (by simp [results, Tryz.results80, go_sem, y1]) rfl ⟨a, cap, by rw [← E1.out], E2.out, E3.out⟩
end

section
open Go Go.RowKit Go.Shelf

theorem check_empty {C : Nat} (h1 : 1 ≤ C) (h2 : C ≤ 10) : checkB ⟨1, []⟩ C = 0 := by
 have hf : fineB ⟨1, []⟩ C = true := rfl
 rw [checkB, if_pos ⟨by omega, by omega⟩, hf]; rfl
set_option maxHeartbeats 2000000 in
theorem profRename (S S2 : Nat → Prop) (c k : Int) (rows : List Row) (u pv : Value) (perm : List Int) (C : Nat) (w : World) (h1 : VProf S w u ⟨c, k, rows⟩) (g1 : chkP ⟨c, k, rows⟩ = 0) (hp : RInts S2 w pv perm) (hl : LotOf perm C) (hC : c = C) :
  Calls Tryz.prog 28 #[u, pv] w fun e w' => ∃ a cap, e = .returned (.tuple #[.agg #[.int .i64 c, .int .u8 k, .slice a (renR k perm rows).length cap], .int .i64 0]) ∧ VProf (fun b => w.heap.size ≤ b) w' (.agg #[.int .i64 c, .int .u8 k, .slice a (renR k perm rows).length cap]) ⟨c, k, renR k perm rows⟩ ∧ Below w.heap.size w w' := by
 have hv1 := chkP_zero.1 g1
 have h10 := h1
 obtain ⟨a1, c1, rfl, hk1, hk2, hR⟩ := h1
 simp only at h10 hk1 hk2 hR
 have hc10 : 1 ≤ C ∧ C ≤ 10 := by have := hv1.new; simp only at this; omega
 obtain ⟨pa, pc, rfl, -, -⟩ := RSl.shape hp
 have hlen := hl.len
 rw [hlen] at hp ⊢
 obtain ⟨W0, hW0⟩ : ∃ W0, W0 = (((w.alloc (.cells #[.int .i64 c, .int .u8 k, .slice a1 rows.length c1] 24)).alloc (.cells #[.slice pa C pc] 25)).alloc (.cells #[.int .i64 0, .int .u8 0, .slice none 0 0] 24)).alloc (.cells #[.int .u8 1, .slice none 0 0] 61) := ⟨_, rfl⟩
 have hlays : W0 = lays w [.cells #[.int .i64 c, .int .u8 k, .slice a1 rows.length c1] 24, .cells #[.slice pa C pc] 25, .cells #[.int .i64 0, .int .u8 0, .slice none 0 0] 24, .cells #[.int .u8 1, .slice none 0 0] 61] := hW0
 have hb0 : Below w.heap.size w W0 := by rw [hlays]; exact lays_below _ _
 have hz0 : W0.heap.size = w.heap.size + 4 := by rw [hlays, lays_size]; rfl
 have hk := fun W (hW : Below W0.heap.size W0 W) => (by
  rw [hlays] at hW
  have y0 := lay_at hW 0 rfl
  have y1 := lay_at hW 1 rfl
  have y2 := lay_at hW 2 rfl
  exact ⟨⟨(qa5 (Below.refl _ W) (qa0 y0) y0).2.1, qa0 y0⟩, ⟨y1, (qa5 (Below.refl _ W) (qa0 y1) y1).2.1, qa0 y1⟩, ⟨(qa5 (Below.refl _ W) (qa0 y2) y2).2.1, (qa5 (Below.refl _ W) (qa0 y2) y2).2.2, qa0 y2⟩⟩ :
  ((∀ i, W.cell? ⟨w.heap.size, i, none⟩ = (#[.int .i64 c, .int .u8 k, .slice a1 rows.length c1] : Array Value)[i]?) ∧ w.heap.size < W.heap.size) ∧
  (W.heap[w.heap.size + 1]? = some (.cells #[.slice pa C pc] 25 (0, 0)) ∧ (∀ i, W.cell? ⟨w.heap.size + 1, i, none⟩ = (#[.slice pa C pc] : Array Value)[i]?) ∧ w.heap.size + 1 < W.heap.size) ∧
  ((∀ i, W.cell? ⟨w.heap.size + 2, i, none⟩ = (#[.int .i64 0, .int .u8 0, .slice none 0 0] : Array Value)[i]?) ∧ (∀ i, W.frozen? ⟨w.heap.size + 2, i, none⟩ = false) ∧ w.heap.size + 2 < W.heap.size))
 have hB := balRename S2 S2 (.agg #[.int .u8 1, .slice none 0 0]) (.slice pa C pc) ⟨1, []⟩ perm C W0 (VBlt.mkR ⟨by omega, by omega⟩ RSl.nil) (hp.same (.of_below hb0)) hl hc10.1 hc10.2 (check_empty hc10.1 hc10.2)
 have hCh := fun W (hW : Below w.heap.size w W) => profCheck S _ ⟨c, k, rows⟩ W (h10.same (.of_below hW))
 rw [g1] at hCh
 have hT := fun W (hW : Below W0.heap.size W0 W) => profTurned S S2 c k rows _ (.slice pa C pc) perm C (w.heap.size + 1) W (h10.same (.of_below (bt hb0 hW))) g1 (hp.same (.of_below (bt hb0 hW))) hl hC (hk W hW).2.1.1
 simp only [List.length_nil] at hB
 obtain ⟨R, hRR⟩ : ∃ R, renR k perm rows = R := ⟨_, rfl⟩
 rw [hRR] at hT ⊢
 obtain ⟨n, hn⟩ : ∃ n, R.length = n := ⟨_, rfl⟩
 rw [hn] at hT ⊢
 have hcC : ((C : Int) != c) = false := by rw [hC]; simp
 have HB := Lib.hid hB; have HCh := Lib.hid hCh; have HT := Lib.hid hT; have HK := Lib.hid hk; have HB0 := Lib.hid hb0; have HZ0 := Lib.hid hz0; have HW0 := Lib.hid hW0
 clear hB hCh hT hk hb0 hz0 hW0 hlays hl hp h10 hR hv1 g1 hlen hRR hn hC hc10
 go_enter Tryz.func28, Tryz.ntmps28
 have st1 := Lib.hid True.intro
 go_wp2_with (first
  | (have := st1; go_at_call 79; clear st1; rw [← HW0.out]; refine HB.out.mono ?_; rintro e w1 ⟨a7, c7, rfl, hR7, hb⟩; have C1 := Lib.hid hb; have C1b := Lib.hid (bt C1.out (qa1 w1 (.cells #[.int .u8 1, .slice a7 0 c7] 61))); obtain ⟨⟨k0, l0⟩, ⟨-, k1, l1⟩, ⟨k2, f2, l2⟩⟩ := HK.out _ hb; clear hR7 hb; have st2 := Lib.hid True.intro; clear this)
  | (have := st2; go_at_call 70; clear st2; refine (HCh.out _ (bt HB0.out C1b.out)).mono ?_; rintro e w2 ⟨rfl, hb⟩; have C2 := Lib.hid (bt C1b.out hb); obtain ⟨⟨k3, l3⟩, ⟨-, k4, l4⟩, ⟨k5, f5, l5⟩⟩ := HK.out _ (bt C1b.out hb); clear hb; have st3 := Lib.hid True.intro; clear this)
  | (have := st3; go_at_call 80; clear st3; refine (HT.out _ C2.out).mono ?_; rintro e w3 ⟨a8, c8, rfl, hV, hb⟩; have HV := Lib.hid hV; have C3 := Lib.hid (bt C2.out hb); obtain ⟨-, -, ⟨k6, f6, l6⟩⟩ := HK.out _ (bt C2.out hb); have hz2 := C2.out.size; clear hV hb; clear this))
 have hfar : ∀ b, w2.heap.size ≤ b → b ≠ w.heap.size + 1 + 1 := fun b hb => by have := HZ0.out; have := C2.out.size; omega
 refine bodyPost_ret (v := .tuple #[.agg #[.int .i64 c, .int .u8 k, .slice a8 n c8], .int .i64 0]) (by simp [results, Tryz.results28, go_sem, k6]) rfl ⟨a8, c8, rfl, ?_, ?_⟩
 ·refine VProf.mono (fun b hb => ?_) (HV.out.same (S := fun b => w2.heap.size ≤ b) fun z _ hz => ((Below.heap_setCell _ _ _ z (hfar z hz)).trans ((Below.heap_setCell _ _ _ z (hfar z hz)).trans (Below.heap_setCell _ _ _ z (hfar z hz)))))
  have := (bt HB0.out C2.out).size; omega
 ·exact (((bt HB0.out C3.out).setCell (p := ⟨w.heap.size + 1 + 1, 0, none⟩) (by simp; omega) _).setCell (p := ⟨w.heap.size + 1 + 1, 1, none⟩) (by simp; omega) _).setCell (p := ⟨w.heap.size + 1 + 1, 2, none⟩) (by simp; omega) _
end

section
open Go Go.RowKit Go.Shelf

structure Modest (o : Outc) (C : Nat) : Prop where
 el : o.elected.length ≤ 1000
 rn : o.rounds.length ≤ 1000
 tn : o.ties.length ≤ 1000
 rd : ∀ r ∈ o.rounds, r.had.length = C ∧ r.elected.length ≤ 1000 ∧ r.out.length ≤ 1000
 ti : ∀ t ∈ o.ties, t.among.length ≤ 1000
theorem qau (perm l : List Int) : (namL perm l).length = l.length := by rw [namL, List.length_map]
def GivesA (o : Outc) (w : World) (e : Ending) (w' : World) : Prop := ∃ a1 n1 c1 a2 n2 c2 a3 n3 c3, e = .returned (.agg #[.slice a1 n1 c1, .slice a2 n2 c2, .slice a3 n3 c3]) ∧ VOutc Any w' (.agg #[.slice a1 n1 c1, .slice a2 n2 c2, .slice a3 n3 c3]) o ∧ Below w.heap.size w w'
set_option linter.unusedSimpArgs false in
set_option maxHeartbeats 4000000 in
set_option maxRecDepth 100000 in
theorem r11Renamed (S T : Nat → Prop) (u pv : Value) (o : Outc) (perm : List Int) (C : Nat) (w : World) (h : VOutc S w u o) (hp : RInts T w pv perm) (hl : LotOf perm C) (h10 : C ≤ 10) (hm : Modest o C) :
  Calls Tryz.prog 31 #[u, pv] w (GivesA (renO perm o) w) := by
 replace h := VOutc.cut (VOutc.mono (T := Any) (fun _ _ => trivial) h)
 replace hp := RInts.mono (T := Any) (fun _ _ => trivial) hp
 obtain ⟨el, rounds, ties⟩ := o
 obtain ⟨m1, m2, m3, m4, m5⟩ := hm
 simp only at m1 m2 m3 m4 m5
 obtain ⟨v1, v2, v3, rfl, q1, q2, q3⟩ := h
 simp only at q1 q2 q3
 obtain ⟨a1, c1, rfl, -, -⟩ := RSl.shape q1
 obtain ⟨a2, c2, rfl, -, -⟩ := RSl.shape q2
 obtain ⟨a3, c3, rfl, -, -⟩ := RSl.shape q3
 obtain ⟨pa, pc, rfl, -, -⟩ := RSl.shape hp
 have hpl := hl.len
 obtain ⟨n1, hn1⟩ : ∃ n, el.length = n := ⟨_, rfl⟩
 obtain ⟨N, hN⟩ : ∃ n, rounds.length = n := ⟨_, rfl⟩
 obtain ⟨M, hM⟩ : ∃ n, ties.length = n := ⟨_, rfl⟩
 rw [hn1] at q1 m1 ⊢
 rw [hN] at q2 m2 ⊢
 rw [hM] at q3 m3 ⊢
 rw [hpl] at hp ⊢
 obtain ⟨W0, hW0⟩ : ∃ W0, W0 = (w.alloc (.cells #[.slice a1 n1 c1, .slice a2 N c2, .slice a3 M c3] 32)).alloc (.cells #[.slice none 0 0, .slice none 0 0, .slice none 0 0] 32) := ⟨_, rfl⟩
 have hlays : W0 = lays w [.cells #[.slice a1 n1 c1, .slice a2 N c2, .slice a3 M c3] 32, .cells #[.slice none 0 0, .slice none 0 0, .slice none 0 0] 32] := hW0
 have hb0 : Below w.heap.size w W0 := by rw [hlays]; exact lays_below _ _
 have hz0 : W0.heap.size = w.heap.size + 2 := by rw [hlays, lays_size]; rfl
 have g0 : W0.heap[w.heap.size]? = some (.cells #[.slice a1 n1 c1, .slice a2 N c2, .slice a3 M c3] 32 (0, 0)) := by rw [hlays]; exact qao _ w 0 rfl
 have g4 : W0.heap[w.heap.size + 1]? = some (.cells #[.slice none 0 0, .slice none 0 0, .slice none 0 0] 32 (0, 0)) := by rw [hlays]; exact qao _ w 1 rfl
 have hEl := r11names (Cut Any w.heap.size) Any _ _ el perm W0 (q1.same (.of_below hb0)) (hp.same (.of_below hb0)) (by omega)
 have hNm := fun W (hW : Below W0.heap.size W0 W) (S : Nat → Prop) a m c (l : List Int) (hr : RInts S W (.slice a m c) l) (hl : l.length ≤ 1000) => r11names S Any _ (.slice pa C pc) l perm W hr (hp.same (.of_below (bt hb0 hW))) (by omega)
 have hRd := fun W (hW : Below W0.heap.size W0 W) => q2.same (.of_below (bt hb0 hW))
 have hTi := fun W (hW : Below W0.heap.size W0 W) => q3.same (.of_below (bt hb0 hW))
 have hPm := fun W (hW : Below W0.heap.size W0 W) => hp.same (.of_below (bt hb0 hW))
 have hmk := run_make3 (P := Tryz.prog) 53 56 56 Tryz.underlying53 Tryz.infoRt .i64 .i64 C (by omega) (by omega)
 have HW0 := Lib.hid hW0; have HB0 := Lib.hid hb0; have HZ0 := Lib.hid hz0; have G0 := Lib.hid g0; have G4 := Lib.hid g4; have HEl := Lib.hid hEl; have HNm := Lib.hid hNm; have HRd := Lib.hid hRd; have HTi := Lib.hid hTi; have HPm := Lib.hid hPm; have Hl := Lib.hid hl; have Hpl := Lib.hid hpl; have HN := Lib.hid hN; have HM := Lib.hid hM; have Hn1 := Lib.hid hn1; have M4 := Lib.hid m4; have M5 := Lib.hid m5
 clear hW0 hb0 hz0 g0 g4 hEl hNm hRd hTi hPm hl hpl hN hM hn1 m4 m5 q1 q2 q3 hp hlays
 go_enter Tryz.func31, Tryz.ntmps31
 have st0 := Lib.hid True.intro
 have st9 := Lib.hid True.intro
 obtain ⟨p0, p1, p2, pl⟩ := box3 G0.out (Below.refl _ W0)
 go_wp2_with (have := st0; go_at_call 89; clear st0; rw [← HW0.out]; refine HEl.out.mono ?_; rintro e w1 ⟨v1, rfl, ho, hb⟩; obtain ⟨b1, d1, rfl⟩ := Own.shape ho; have HO := Lib.hid ho; have C1 := Lib.hid hb; clear ho hb this)
 obtain ⟨G, hG⟩ : ∃ G, w1.heap.size = G := ⟨_, rfl⟩
 obtain ⟨W1, hW1⟩ : ∃ W1, W1 = w1.alloc (.cells #[.slice b1 (namL perm el).length d1, .slice none 0 0, .slice none 0 0] 32) := ⟨_, rfl⟩
 have hnl := qau perm el
 rw [Hn1.out] at hnl
 rw [hnl] at HO hW1 ⊢
 have hC1 := C1.out
 have hbW1 : Below w1.heap.size w1 W1 := by rw [hW1]; exact qa1 _ _
 have hz1 := hC1.size
 have HZ := HZ0.out
 have HI0 : ROI (w.heap.size + 1) G W1 W1 (.slice b1 n1 d1) (.slice none 0 0) (.slice none 0 0) (namL perm el) [] [] := by
  refine ⟨by rw [hW1, ← hG]; exact qa9 _ _, Own.nil _ _ _ _ _, Own.nil _ _ _ _ _, ?_, Below.refl _ _⟩
  have h3 : RSl (Cut (From W0.heap.size) w1.heap.size) 1 (dInt .i64) w1 (.slice b1 n1 d1) (namL perm el) := RSl.cut (by omega) (fun _ _ h => h) (Own.rsl HO.out (by rw [hnl]; omega))
  have hs1 : W1.heap.size = w1.heap.size + 1 := by rw [hW1]; simp
  refine RSl.mono (fun _ _ _ h => h) (fun b hb => ⟨by have := hb.2; omega, ?_, ?_, by simp [Value.ownBlock], by simp [Value.ownBlock]⟩) (RSl.same (dInt.stable _ _) (.of_below hbW1) h3)
  ·have := hb.1; simp only [From] at this; omega
  ·have := hb.2; omega
 have HI0' := Lib.hid HI0
 have hWB : ∀ wr, Below G W1 wr → Below W0.heap.size W0 wr := fun wr h => (bt hC1 hbW1).trans (h.mono (by omega))
 have HWB := Lib.hid hWB
 have hG0 : W0.heap.size ≤ G := by omega
 have hw1s : G < W1.heap.size := by rw [hW1]; simp; omega
 rw [← hW1]
 rw [hG]
 have HGz := Lib.hid hz1
 clear HI0 hWB hW1 hbW1 HO hnl hC1 C1 hG hz1 HGz hw1s HZ
 go_wp2
 go_loopw [6, 7, 8, 9] (fun i _ _ _ wr => ∃ (k : Nat) (vr : Value), k ≤ N ∧ i = .int .i64 k ∧ Hid (ROI (w.heap.size + 1) G W1 wr (.slice b1 n1 d1) vr (.slice none 0 0) (namL perm el) ((rounds.take k).map (renRnd perm)) [])) (fun i _ _ _ _ => N - (intOf i).toNat)
 case atStart => exact ⟨0, _, Nat.zero_le _, rfl, HI0'⟩
 case round =>
  obtain ⟨k, vr, hk, rfl, HI⟩ := hrel
  obtain ⟨wo, rfl⟩ : ∃ wo, wo = wr := ⟨_, rfl⟩
  have hbo := HWB.out _ HI.out.below
  obtain ⟨ar, cr, rfl⟩ := Own.shape HI.out.rd
  obtain ⟨mr, hmr⟩ : ∃ m, ((rounds.take k).map (renRnd perm)).length = m := ⟨_, rfl⟩
  have hmrl : ((rounds.take k).map (renRnd perm)).length ≤ 1000000 := by rw [List.length_map, List.length_take]; omega
  rw [hmr] at HI
  obtain ⟨p0, p1, p2, pl⟩ := box3 G0.out hbo
  by_cases hlt : k < N
  ·have hlr : k < rounds.length := by rw [HN.out]; exact hlt
   obtain ⟨b, off, k0, k1, k2, k3, k4, k5, rfl, -, hbk, e0, e1, e2, e3, e4, e5, hd⟩ := RSl.at6 (HRd.out _ hbo) k hlr
   obtain ⟨v0, vn, vd, v1, v2, heq, r0, r1, r2, r3, r4⟩ := hd
   simp only [List.cons.injEq, and_true] at heq
   obtain ⟨rfl, rfl, rfl, rfl, rfl, rfl⟩ := heq
   have hmod := M4.out _ (List.getElem_mem hlr)
   have hstep : (rounds.take (k + 1)).map (renRnd perm) = (rounds.take k).map (renRnd perm) ++ [renRnd perm rounds[k]] := by rw [List.take_succ_eq_append_getElem hlr, List.map_append]; rfl
   obtain ⟨R, hR⟩ : ∃ R, rounds[k] = R := ⟨_, rfl⟩
   rw [hR] at hmod hstep e1 r0 r1 r2 r3 r4
   obtain ⟨had, ⟨ln, lnum, lden⟩, rel, rout⟩ := R
   simp only at hmod e1 r0 r1 r2 r3 r4
   obtain ⟨hmC, hmE, hmO⟩ := hmod
   obtain ⟨x0, y0, rfl, -, -⟩ := RSl.shape r0
   obtain ⟨x1, y1, rfl, -, -⟩ := RSl.shape r1
   obtain ⟨x2, y2, rfl, -, -⟩ := RSl.shape r2
   obtain ⟨x3, y3, rfl, -, -⟩ := RSl.shape r3
   obtain ⟨x4, y4, rfl, -, -⟩ := RSl.shape r4
   obtain ⟨z1, hz1'⟩ : ∃ z, lnum.length = z := ⟨_, rfl⟩
   obtain ⟨z2, hz2'⟩ : ∃ z, lden.length = z := ⟨_, rfl⟩
   obtain ⟨z3, hz3'⟩ : ∃ z, rel.length = z := ⟨_, rfl⟩
   obtain ⟨z4, hz4'⟩ : ∃ z, rout.length = z := ⟨_, rfl⟩
   rw [hmC] at e0 r0
   rw [hz1'] at e2 r1
   rw [hz2'] at e3 r2
   rw [hz3'] at e4 r3
   rw [hz4'] at e5 r4
   obtain ⟨cells, hDec, hch⟩ := RSl.chunk r0
   rw [hmC] at hch
   obtain ⟨CL, hCL⟩ : ∃ CL, chunks cells C = CL := ⟨_, rfl⟩
   have hCLl : CL.length = C := by rw [← hCL, chunks_length]
   have hCL3 : ∀ l ∈ CL, l.length = 3 := by rw [← hCL]; exact chunks_three (by rw [hDec.1, hmC])
   obtain ⟨X, hX⟩ : ∃ X, X = wo.alloc (.cells #[.slice x0 C y0, .bool ln, .slice x1 z1 y1, .slice x2 z2 y2, .slice x3 z3 y3, .slice x4 z4 y4] 58) := ⟨_, rfl⟩
   have hbX : Below wo.heap.size wo X := by rw [hX]; exact qa1 _ _
   have hXs : X.heap.size = wo.heap.size + 1 := by rw [hX]; simp
   have gX : X.heap[wo.heap.size]? = some (.cells #[.slice x0 C y0, .bool ln, .slice x1 z1 y1, .slice x2 z2 y2, .slice x3 z3 y3, .slice x4 z4 y4] 58 (0, 0)) := by rw [hX]; exact qa9 _ _
   have hxb : ∀ W, Below X.heap.size X W → (W.cell? ⟨wo.heap.size, 0, none⟩ = some (.slice x0 C y0) ∧ W.cell? ⟨wo.heap.size, 1, none⟩ = some (.bool ln) ∧ W.cell? ⟨wo.heap.size, 2, none⟩ = some (.slice x1 z1 y1) ∧ W.cell? ⟨wo.heap.size, 3, none⟩ = some (.slice x2 z2 y2) ∧ W.cell? ⟨wo.heap.size, 4, none⟩ = some (.slice x3 z3 y3) ∧ W.cell? ⟨wo.heap.size, 5, none⟩ = some (.slice x4 z4 y4)) := fun W hW => by
    obtain ⟨-, h2, -⟩ := qa5 hW (qa0 gX) gX
    exact ⟨h2 0, h2 1, h2 2, h2 3, h2 4, h2 5⟩
   have hce : ∀ (c : Nat) (d e f : Value), c < C → (cells.drop (c * 3)).take 3 = [d, e, f] → CL[c]? = some [d, e, f] := fun c d e f h he => by rw [List.getElem?_eq_getElem (by rw [hCLl]; exact h), Option.some.injEq]; subst hCL; rw [chunks_at h]; exact he
   have Hce := Lib.hid hce; clear hce
   have HXB := Lib.hid hxb; have HX := Lib.hid hX; have HbX := Lib.hid hbX; have HCh := Lib.hid hch; have HDec := Lib.hid hDec; have HCLl := Lib.hid hCLl; have HCL3 := Lib.hid hCL3; have HCL := Lib.hid hCL; have Hstep := Lib.hid hstep; have HmC := Lib.hid hmC; have HmE := Lib.hid hmE; have HmO := Lib.hid hmO; have Hmr := Lib.hid hmr; have Hmrl := Lib.hid hmrl; have R1 := Lib.hid r1; have R2 := Lib.hid r2; have R3 := Lib.hid r3; have R4 := Lib.hid r4; have Hz3 := Lib.hid hz3'; have Hz4 := Lib.hid hz4'; have Hbo := Lib.hid hbo; have HXs := Lib.hid hXs
   obtain ⟨q0, q1, q2, q3, q4, q5⟩ := hxb X (Below.refl _ _)
   clear hxb hX hbX hch hDec hCLl hCL3 hCL hstep hmC hmE hmO hmr hmrl r0 r1 r2 r3 r4 hz1' hz2' hz3' hz4' hbo hXs gX hR
   go_wp2
   rw [← HX.out]
   obtain ⟨W3, hW3⟩ : ∃ W3, W3 = X.alloc (.cells (madeCells #[.bool false, .slice none 0 0, .slice none 0 0] (C * 3)) 56) := ⟨_, rfl⟩
   have hH0 : HadB W3 (wo.heap.size + 1) perm CL 0 := by rw [hW3, ← HXs.out]; exact HadB.start X perm CL HCLl.out
   have hb3 : Below X.heap.size X W3 := by rw [hW3]; exact qa1 _ _
   rw [← hW3]
   have HH0 := Lib.hid hH0; have Hb3 := Lib.hid hb3
   clear hW3 hH0 hb3 q0 q1 q2 q3 q4 q5 hmk p0 p1 p2
   go_loopw [9] (fun i wq => ∃ c : Nat, c ≤ C ∧ i = .int .i64 c ∧ Hid (HadB wq (wo.heap.size + 1) perm CL c) ∧ Hid (Below (wo.heap.size + 1) W3 wq)) (fun i _ => C - (intOf i).toNat)
   case atStart => exact ⟨0, Nat.zero_le _, rfl, HH0, Lib.hid (Below.refl _ _)⟩
   case round =>
    obtain ⟨c, hc, rfl, HH, Hbq⟩ := hrel
    have hXq : Below X.heap.size X wr := Hb3.out.trans (HXs.out ▸ Hbq.out)
    have hoq : Below wo.heap.size wo wr := bt HbX.out hXq
    have h0q := bt Hbo.out hoq
    obtain ⟨q0, q1, q2, q3, q4, q5⟩ := HXB.out _ hXq
    by_cases hcl : c < C
    ·obtain ⟨pb, poff, pcell, rfl, -, pbl, pcl, pd⟩ := RSl.at1 (HPm.out wr h0q) c (by rw [Hpl.out]; exact hcl)
     obtain ⟨rfl, pwf⟩ := pd.open
     have hgm := gI_mem Hl.out (x := (c : Int)) (by omega) (by omega)
     have hga := gI_at (l := perm) (k := c) (by rw [Hpl.out]; exact hcl)
     rw [hga] at hgm
     obtain ⟨pn, hpn⟩ : ∃ pn : Nat, perm[c]'(by rw [Hpl.out]; exact hcl) = pn := ⟨(perm[c]'(by rw [Hpl.out]; exact hcl)).toNat, by omega⟩
     rw [hpn] at pcl pwf hgm hga
     have hpC : pn < C := by omega
     obtain ⟨hb, hoff, d, e, f, rfl, hbl, f0, f1, f2, hch⟩ := HCh.out c hcl
     have hdd := HDec.out.2 c (by rw [HmC.out]; exact hcl)
     have hce := Hce.out c d e f hcl hch
     rw [hch] at hdd
     obtain ⟨dneg, hdneg⟩ : ∃ q, had[c]'(by rw [HmC.out]; exact hcl) = q := ⟨_, rfl⟩
     rw [hdneg] at hdd
     obtain ⟨dn, dnum, dden⟩ := dneg
     obtain ⟨e1', e2', e3', e4', rfl, rfl, rfl, -, -⟩ := hdd.open
     have k0 := (Same.of_below (S := Any) hoq).cell trivial f0
     have k1 := (Same.of_below (S := Any) hoq).cell trivial f1
     have k2 := (Same.of_below (S := Any) hoq).cell trivial f2
     obtain ⟨s0, s1, s2⟩ := HH.out.cells HCL3.out (p := pn) (by rw [HCLl.out]; exact hpC)
     obtain ⟨z0, s0⟩ := Option.isSome_iff_exists.1 s0
     obtain ⟨z1', s1⟩ := Option.isSome_iff_exists.1 s1
     obtain ⟨z2', s2⟩ := Option.isSome_iff_exists.1 s2
     have t0 := HH.out.frozen (pn * 3)
     have t1 := HH.out.frozen (pn * 3 + 1)
     have t2 := HH.out.frozen (pn * 3 + 2)
     have hne : hb ≠ wo.heap.size + 1 := by omega
     have hst := fun (W : World) (hW : HadB W (wo.heap.size + 1) perm CL c) => HadB.step hW (by rw [HCLl.out]; exact Hl.out) HCL3.out (by rw [HCLl.out]; exact hcl) hga (by have hz := hce; rwa [List.getElem?_eq_getElem (by rw [HCLl.out]; exact hcl), Option.some.injEq] at hz)
     have Hst := Lib.hid hst; have Hpwf := Lib.hid pwf
     clear hst pwf hgm hga hpn f0 f1 f2 hch hce
     simp only at k0 k1 k2
     obtain ⟨l1', hl1'⟩ : ∃ q, dnum.length = q := ⟨_, rfl⟩
     obtain ⟨l2', hl2'⟩ : ∃ q, dden.length = q := ⟨_, rfl⟩
     rw [hl1'] at k1 Hst
     rw [hl2'] at k2 Hst
     clear hl1' hl2' hdd hdneg
     go_wp2
     go_still_tail 11, (by kernel_rfl)
     go_wp2
     exact ⟨⟨c + 1, by omega, by go_num, Lib.hid (Hst.out _ HH.out), Lib.hid ((((Hbq.out.drew).setCell (p := ⟨wo.heap.size + 1, pn * 3, none⟩) (Nat.le_refl _) _).setCell (p := ⟨wo.heap.size + 1, pn * 3 + 1, none⟩) (Nat.le_refl _) _).setCell (p := ⟨wo.heap.size + 1, pn * 3 + 2, none⟩) (Nat.le_refl _) _)⟩, by simp [intOf]; omega⟩
    ·obtain rfl : c = C := by omega
     have h45 : w.heap.size + 1 < G := by have := HZ0.out; omega
     have hGo : G < wo.heap.size := qa0 HI.out.bx
     have hIq := HI.out.later (w1 := wr.drew) (hoq.drew)
     have hbq0 : Below W0.heap.size W0 wr.drew := h0q.drew
     have hlow : ∀ b, Cut Any w.heap.size b → Rz (w.heap.size + 1) G wr.drew (.slice ar mr cr) (.slice none 0 0) b := fun b hb => hIq.low h45 (by have := hb.2; omega)
     have hqs : wo.heap.size + 1 < wr.drew.heap.size := HH.out.lt
     have hHad : RRts (Rz (w.heap.size + 1) G wr.drew (.slice ar mr cr) (.slice none 0 0)) wr.drew (.slice (some ⟨wo.heap.size + 1, 0, none⟩) c c) (permK zRt perm had c) := by
      have hH2 := HH.out
      rw [← HCL.out] at hH2
      exact HadB.done (S := Cut Any w.heap.size) HmC.out Hl.out (HDec.out.same (dRt.stable _) (.of_below hoq.drew)) hlow (HI.out.high (w1 := wr.drew) h45 (by omega) hqs) hH2 (by omega)
     have hN5 := HNm.out wr.drew hbq0 (Cut Any w.heap.size) x3 z3 y3 rel (R3.out.same (.of_below hoq.drew)) HmE.out
     have hN6 := fun w5 (h5 : Below wr.drew.heap.size wr.drew w5) => HNm.out w5 (bt hbq0 h5) (Cut Any w.heap.size) x4 z4 y4 rout (R4.out.same (.of_below (bt hoq.drew h5))) HmO.out
     have hxq : Below X.heap.size X wr.drew := hXq.drew
     have hD : ∀ w5 w6 a5 c5 a6 c6 m5 m6, Below wr.drew.heap.size wr.drew w5 → Own wr.drew.heap.size 3 1 (dInt .i64) w5 (.slice a5 m5 c5) (namL perm rel) → Below w5.heap.size w5 w6 → Own w5.heap.size 3 1 (dInt .i64) w6 (.slice a6 m6 c6) (namL perm rout) →
       dRnd (Rz (w.heap.size + 1) G w6 (.slice ar mr cr) (.slice none 0 0)) w6 [.slice (some ⟨wo.heap.size + 1, 0, none⟩) c c, .bool ln, .slice x1 z1 y1, .slice x2 z2 y2, .slice a5 m5 c5, .slice a6 m6 c6] (renRnd perm ⟨had, ⟨ln, lnum, lden⟩, rel, rout⟩) := fun w5 w6 a5 c5 a6 c6 m5 m6 b5 o5 b6 o6 => by
      have hI5 := hIq.later b5
      have hu : ∀ b, Rz (w.heap.size + 1) G wr.drew (.slice ar mr cr) (.slice none 0 0) b → Rz (w.heap.size + 1) G w6 (.slice ar mr cr) (.slice none 0 0) b := Rz.up (bt b5 b6).size (.inl rfl) (.inl rfl)
      have hu5 : ∀ b, Rz (w.heap.size + 1) G w5 (.slice ar mr cr) (.slice none 0 0) b → Rz (w.heap.size + 1) G w6 (.slice ar mr cr) (.slice none 0 0) b := Rz.up b6.size (.inl rfl) (.inl rfl)
      refine ⟨_, _, _, _, _, rfl, ?_, ?_, ?_, ?_, ?_⟩
      ·have := (hHad.same (.of_below (bt b5 b6))).mono hu
       rwa [show renRnd perm ⟨had, ⟨ln, lnum, lden⟩, rel, rout⟩ = ⟨permK zRt perm had c, ⟨ln, lnum, lden⟩, namL perm rel, namL perm rout⟩ by rw [renRnd, HmC.out]]
      ·exact (((R1.out.same (.of_below hoq.drew)).mono hlow).same (.of_below (bt b5 b6))).mono hu
      ·exact (((R2.out.same (.of_below hoq.drew)).mono hlow).same (.of_below (bt b5 b6))).mono hu
      ·exact ((hIq.fresh h45 o5 (by show (namL perm rel).length ≤ 1000000; rw [qau]; have := HmE.out; omega)).same (.of_below b6)).mono hu5
      ·exact hI5.fresh h45 o6 (by show (namL perm rout).length ≤ 1000000; rw [qau]; have := HmO.out; omega)
     have hbxq := fun W (hW : Below wr.drew.heap.size wr.drew W) => box3 (hIq.later hW).bx (Below.refl _ _)
     have hS0 : ∀ W, Below wr.drew.heap.size wr.drew W → (fun w' : World => w'.cell? ⟨G, 1, none⟩ = some (.slice ar mr cr) ∧ w'.cell? ⟨wo.heap.size, 1, none⟩ = some (.bool ln) ∧ w'.cell? ⟨wo.heap.size, 2, none⟩ = some (.slice x1 z1 y1) ∧ w'.cell? ⟨wo.heap.size, 3, none⟩ = some (.slice x2 z2 y2) ∧ w'.cell? ⟨wo.heap.size, 4, none⟩ = some (.slice x3 z3 y3) ∧ w'.cell? ⟨wo.heap.size, 5, none⟩ = some (.slice x4 z4 y4)) W := fun W hW => by
      obtain ⟨-, j1, -, -⟩ := hbxq W hW
      obtain ⟨-, j2, j3, j4, j5, j6⟩ := HXB.out _ (bt hxq hW)
      exact ⟨j1, j2, j3, j4, j5, j6⟩
     have hS1 : ∀ w6 w7, Below wr.drew.heap.size wr.drew w6 → w6.grownBy w7 (Value.slice ar mr cr).ownBlock → (fun w' : World => w'.cell? ⟨G, 1, none⟩ = some (.slice ar mr cr) ∧ w'.cell? ⟨wo.heap.size, 1, none⟩ = some (.bool ln) ∧ w'.cell? ⟨wo.heap.size, 2, none⟩ = some (.slice x1 z1 y1) ∧ w'.cell? ⟨wo.heap.size, 3, none⟩ = some (.slice x2 z2 y2) ∧ w'.cell? ⟨wo.heap.size, 4, none⟩ = some (.slice x3 z3 y3) ∧ w'.cell? ⟨wo.heap.size, 5, none⟩ = some (.slice x4 z4 y4)) w7 := fun w6 w7 hW hg => by
      obtain ⟨h1, h2, h3, h4, h5, h6⟩ := hS0 w6 hW
      have k1 : ∀ b o v, b < wo.heap.size + 1 → (∀ k, (Value.slice ar mr cr).ownBlock = some k → k ≠ b) → w6.cell? ⟨b, o, none⟩ = some v → w7.cell? ⟨b, o, none⟩ = some v := fun b o v _ hne hc => (World.cell?_of_block (w := w6) (hg.block b (qad hc) (fun e => hne b e.symm rfl))).trans hc
      have kG : ∀ k, (Value.slice ar mr cr).ownBlock = some k → k ≠ G := fun k hk => by have := (Own.lt HI.out.rd k hk).1; omega
      have kX : ∀ k, (Value.slice ar mr cr).ownBlock = some k → k ≠ wo.heap.size := fun k hk => by have := (Own.lt HI.out.rd k hk).2; omega
      exact ⟨k1 _ _ _ (by omega) kG h1, k1 _ _ _ (by omega) kX h2, k1 _ _ _ (by omega) kX h3, k1 _ _ _ (by omega) kX h4, k1 _ _ _ (by omega) kX h5, k1 _ _ _ (by omega) kX h6⟩
     have HIq := Lib.hid hIq; have HN5 := Lib.hid hN5; have HN6 := Lib.hid hN6; have HD := Lib.hid hD; have HS0 := Lib.hid hS0; have HS1 := Lib.hid hS1
     clear hIq hN5 hN6 hD hxq hbxq hHad hlow hbq0 hoq h0q hXq hS0 hS1
     go_wp2
     clear q0 q1 q2 q3 q4 q5
     refine qal (S := (fun w' : World => w'.cell? ⟨G, 1, none⟩ = some (.slice ar mr cr) ∧ w'.cell? ⟨wo.heap.size, 1, none⟩ = some (.bool ln) ∧ w'.cell? ⟨wo.heap.size, 2, none⟩ = some (.slice x1 z1 y1) ∧ w'.cell? ⟨wo.heap.size, 3, none⟩ = some (.slice x2 z2 y2) ∧ w'.cell? ⟨wo.heap.size, 4, none⟩ = some (.slice x3 z3 y3) ∧ w'.cell? ⟨wo.heap.size, 5, none⟩ = some (.slice x4 z4 y4))) (L := [17]) (by kernel_rfl) (HS0.out _ (Below.refl _ _)) (fun hHeld => ?_)
     refine tk 0 ?_ rfl hHeld ?_ ?_
     rotate_left
     ·intro w hSw; (try dsimp only at hSw); go_simp; try (with_reducible rfl)
     (try simp only [la, lb, lc, ld, lf, lg, lh])
     refine tk 1 ?_ rfl hHeld ?_ ?_
     rotate_left
     ·intro w hSw; (try dsimp only at hSw); go_simp; try (with_reducible rfl)
     (try simp only [la, lb, lc, ld, lf, lg, lh])
     refine tk 2 ?_ rfl hHeld ?_ ?_
     rotate_left
     ·intro w hSw; (try dsimp only at hSw); go_simp; try (with_reducible rfl)
     (try simp only [la, lb, lc, ld, lf, lg, lh])
     refine tk 3 ?_ rfl hHeld ?_ ?_
     rotate_left
     ·intro w hSw; (try dsimp only at hSw); go_simp; try (with_reducible rfl)
     (try simp only [la, lb, lc, ld, lf, lg, lh])
     refine tk 4 ?_ rfl hHeld ?_ ?_
     rotate_left
     ·intro w hSw; (try dsimp only at hSw); go_simp; try (with_reducible rfl)
     (try simp only [la, lb, lc, ld, lf, lg, lh])
     refine tk 5 ?_ rfl hHeld ?_ ?_
     rotate_left
     ·intro w hSw; (try dsimp only at hSw); go_simp; try (with_reducible rfl)
     (try simp only [la, lb, lc, ld, lf, lg, lh])
     refine tk 6 ?_ rfl hHeld ?_ ?_
     rotate_left
     ·intro w hSw; (try dsimp only at hSw); go_simp; try (with_reducible rfl)
     (try simp only [la, lb, lc, ld, lf, lg, lh])
     refine tk 7 ?_ rfl hHeld ?_ ?_
     rotate_left
     ·intro w hSw; (try dsimp only at hSw); go_simp; try (with_reducible rfl)
     (try simp only [la, lb, lc, ld, lf, lg, lh])
     refine tk 9 ?_ rfl hHeld ?_ ?_
     rotate_left
     ·intro w hSw; (try dsimp only at hSw); go_simp; try (with_reducible rfl)
     (try simp only [la, lb, lc, ld, lf, lg, lh])
     refine tk 10 ?_ rfl hHeld ?_ ?_
     rotate_left
     ·intro w hSw; (try dsimp only at hSw); go_simp; try (with_reducible rfl)
     (try simp only [la, lb, lc, ld, lf, lg, lh])
     refine tk 11 ?_ rfl hHeld ?_ ?_
     rotate_left
     ·intro w hSw; (try dsimp only at hSw); go_simp; try (with_reducible rfl)
     (try simp only [la, lb, lc, ld, lf, lg, lh])
     refine qa7 (i := 8) (by kernel_rfl) rfl (fun K hK => ?_)
     (go_simp; go_at_call 89; refine HN5.out.mono ?_; rintro e w5 ⟨v5, rfl, ho, hb5⟩; obtain ⟨a5, m5, c5, rfl⟩ := Own.slice ho; have HO5 := Lib.hid ho; have B5 := Lib.hid hb5; clear ho hb5)
     refine hK.out _ _ (HS0.out _ B5.out) (fun hHeld => ?_)
     clear hK K
     (try simp only [la, lb, lc, ld, lf, lg, lh])
     refine qa7 (i := 12) (by kernel_rfl) rfl (fun K hK => ?_)
     (go_simp; go_at_call 89; refine (HN6.out _ B5.out).mono ?_; rintro e w6 ⟨v6, rfl, ho, hb6⟩; obtain ⟨a6, m6, c6, rfl⟩ := Own.slice ho; have HD6 := Lib.hid (HD.out _ _ _ _ _ _ _ _ B5.out HO5.out hb6 ho); have B6 := Lib.hid (bt B5.out hb6); have HI6 := Lib.hid (HIq.out.later B6.out); have hz6 : G + 1 ≤ w6.heap.size := qa0 HI6.out.bx; clear ho hb6)
     refine hK.out _ _ (HS0.out _ B6.out) (fun hHeld => ?_)
     clear hK K
     (try simp only [la, lb, lc, ld, lf, lg, lh])
     refine tk 13 ?_ rfl hHeld ?_ ?_
     rotate_left
     ·intro w hSw; (try dsimp only at hSw); go_simp; try (with_reducible rfl)
     (try simp only [la, lb, lc, ld, lf, lg, lh])
     refine qa7 (i := 14) (by kernel_rfl) rfl (fun K hK => ?_)
     go_simp
     refine hK.out _ _ (HS0.out _ (bt B6.out (qa1 _ _))) (fun hHeld => ?_)
     clear hK K
     (try simp only [la, lb, lc, ld, lf, lg, lh])
     refine qa7 (i := 15) (by kernel_rfl) rfl (fun K hK => ?_)
     (refine step_appF w6 Tryz.infoRnd rfl rfl Tryz.underlying29 ⟨rfl, by omega, by omega, by omega⟩ (dRnd.one _) (dRnd.stable _) (G + 1) HI6.out.rd (fun b hb => hb.2.2.2.1) rfl (cs := [.slice (some ⟨wo.heap.size + 1, 0, none⟩) c c, .bool ln, .slice x1 z1 y1, .slice x2 z2 y2, .slice a5 m5 c5, .slice a6 m6 c6]) rfl HD6.out rfl Hmrl.out hz6 ?_; intro a7 n7 c7 w7 ho7 hB7 hg7 hl7; have HI7 := Lib.hid (HI6.out.round ho7 hB7 hg7 hl7); have HS7 := Lib.hid (HS1.out _ _ B6.out hg7); have g7 := HI6.out.grown hg7 (fun k hk => (Own.lt HI6.out.rd k hk).1); obtain ⟨-, z7, f7⟩ := qa5 (Below.refl _ w7) (qa0 g7) g7; have z71 := z7 1; have f71 := f7 1; clear ho7 hB7 hg7 hl7 z7 f7 g7)
     refine hK.out _ _ HS7.out (fun hHeld => ?_)
     clear hK K
     (try simp only [la, lb, lc, ld, lf, lg, lh])
     refine tk 16 ?_ rfl hHeld ?_ ?_
     rotate_left
     ·intro w hSw; (try dsimp only at hSw); go_simp; try (with_reducible rfl)
     (try simp only [la, lb, lc, ld, lf, lg, lh])
     refine qb3 (i := 17) (by kernel_rfl) rfl (by kernel_rfl) (fun K hK => ?_)
     go_simp
     refine hK.out _ _ ?_
     clear hK K
     (try simp only [la, lb, lc, ld, lf, lg, lh])
     refine qai (by kernel_rfl) ?_ _
     go_wp2
     exact ⟨⟨k + 1, _, by omega, by go_num, Lib.hid (by rw [Hstep.out]; exact HI7.out)⟩, by simp [intOf]; omega⟩
  ·obtain rfl : k = N := by omega
   have hfull : ROI (w.heap.size + 1) G W1 wo (.slice b1 n1 d1) (.slice ar mr cr) (.slice none 0 0) (namL perm el) (rounds.map (renRnd perm)) [] := by
    have := HI.out
    rwa [List.take_of_length_le (by rw [HN.out]; exact Nat.le_refl _)] at this
   have HF := Lib.hid hfull
   clear hfull hmr hmrl hmk
   go_wp2
   go_loopw [10, 11, 12, 13] (fun i _ _ _ wr => ∃ (j : Nat) (vt : Value), j ≤ M ∧ i = .int .i64 j ∧ Hid (ROI (w.heap.size + 1) G W1 wr (.slice b1 n1 d1) (.slice ar mr cr) vt (namL perm el) (rounds.map (renRnd perm)) ((ties.take j).map (renTie perm)))) (fun i _ _ _ _ => M - (intOf i).toNat)
   case atStart => exact ⟨0, _, Nat.zero_le _, rfl, HF⟩
   case round =>
    obtain ⟨j, vt, hj, rfl, HJ⟩ := hrel
    obtain ⟨wt, rfl⟩ : ∃ wt, wt = wr := ⟨_, rfl⟩
    have hbt := HWB.out _ HJ.out.below
    obtain ⟨at_, ct, rfl⟩ := Own.shape HJ.out.ti
    obtain ⟨mt, hmt⟩ : ∃ m, ((ties.take j).map (renTie perm)).length = m := ⟨_, rfl⟩
    have hmtl : ((ties.take j).map (renTie perm)).length ≤ 1000000 := by rw [List.length_map, List.length_take]; omega
    rw [hmt] at HJ
    obtain ⟨p0, p1, p2, pl'⟩ := box3 G0.out hbt
    by_cases hlt : j < M
    ·have hlr : j < ties.length := by rw [HM.out]; exact hlt
     obtain ⟨b, off, k0, k1, rfl, -, hbk, e0, e1, hd⟩ := RSl.at2 (HTi.out _ hbt) j hlr
     have hmod := M5.out _ (List.getElem_mem hlr)
     have hstep : (ties.take (j + 1)).map (renTie perm) = (ties.take j).map (renTie perm) ++ [renTie perm ties[j]] := by rw [List.take_succ_eq_append_getElem hlr, List.map_append]; rfl
     obtain ⟨R, hR⟩ : ∃ R, ties[j] = R := ⟨_, rfl⟩
     rw [hR] at hmod hstep hd
     obtain ⟨am, ch⟩ := R
     simp only at hmod
     obtain ⟨x0, y0, rfl, rfl, -, hwf, r0⟩ := hd.open
     simp only at r0 e0 e1 hwf
     obtain ⟨z0, hz0'⟩ : ∃ z, am.length = z := ⟨_, rfl⟩
     rw [hz0'] at e0 r0
     have hN5 := HNm.out wt hbt (Cut Any w.heap.size) x0 z0 y0 am r0 hmod
     have HN5 := Lib.hid hN5; have Hstep := Lib.hid hstep; have Hmt := Lib.hid hmt; have Hmtl := Lib.hid hmtl; have Hwf := Lib.hid hwf; have Hbt := Lib.hid hbt
     have hbw0 : b < w.heap.size := by
      obtain ⟨b', off', _, _, eb, hS', -⟩ := RSl.at2 (HTi.out _ hbt) j hlr
      simp only [Option.some.injEq, Addr.mk.injEq, and_true] at eb
      obtain ⟨rfl, rfl⟩ := eb
      exact hS'.2
     have Hbw0 := Lib.hid hbw0
     clear hN5 hstep hmt hmtl hwf hbt r0 hd hR hz0' p0 p1 hbw0
     go_wp2_with (go_at_call 89; refine HN5.out.mono ?_; rintro e w5 ⟨v5, rfl, ho, hb5⟩; obtain ⟨a5, m5, c5, rfl⟩ := Own.slice ho; have HO5 := Lib.hid ho; have B5 := Lib.hid hb5; clear ho hb5)
     have hm5 := Own.len HO5.out
     rw [qau] at hm5
     have hnl5 : (namL perm am).length ≤ 1000 := by rw [qau]; exact hmod
     have Hnl5 := Lib.hid hnl5
     clear hm5 hnl5 hmod
     go_loopw [12, 13] (fun s i wq => ∃ c : Nat, c ≤ C ∧ i = .int .i64 c ∧ Hid (Own w5.heap.size 3 1 (dInt .i64) wq s ((rngI c).filter fun y => (namL perm am).contains y)) ∧ Hid (Below w5.heap.size w5 wq)) (fun _ i _ => C - (intOf i).toNat)
     case atStart => exact ⟨0, Nat.zero_le _, rfl, Lib.hid (Own.nil _ _ _ _ _), Lib.hid (Below.refl _ _)⟩
     case round =>
      obtain ⟨c, hc, rfl, HQ, Hbq⟩ := hrel
      obtain ⟨aq, cq, rfl⟩ := Own.shape HQ.out
      obtain ⟨mq, hmq⟩ : ∃ m, ((rngI c).filter fun y => (namL perm am).contains y).length = m := ⟨_, rfl⟩
      rw [hmq] at HQ ⊢
      have hmql : ((rngI c).filter fun y => (namL perm am).contains y).length ≤ 1000000 := Nat.le_trans (List.length_filter_le _ _) (by rw [qaq]; omega)
      have Hmql := Lib.hid hmql
      have hz := Hbq.out.size
      by_cases hcl : c < C
      ·have hIn := r11In _ _ (namL perm am) (c : Int) wr (RSl.same (dInt.stable _ _) (.of_below Hbq.out) (Own.rsl HO5.out (by have := Hnl5.out; omega)))
       have hst : (rngI (c + 1)).filter (fun y => (namL perm am).contains y) = (rngI c).filter (fun y => (namL perm am).contains y) ++ if (namL perm am).contains (c : Int) then [(c : Int)] else [] := by
        rw [rngI_succ, List.filter_append]
        congr 1
        simp only [List.filter_cons, List.filter_nil]
       have hwc : (Lit.int .i64 (c : Int)).wf = true := WalkArith.wf_i64 (by omega)
       have Hwc := Lib.hid hwc
       rw [hasI] at hIn
       cases hb : (namL perm am).contains (c : Int)
       ·rw [hb] at hIn hst
        rw [if_neg (by simp), List.append_nil] at hst
        have HIn := Lib.hid hIn; have Hst := Lib.hid hst
        clear hIn hst hb hmq hmql hwc
        go_wp2_with (go_at_call 39; refine HIn.out.mono ?_; rintro e w1' ⟨rfl, rfl⟩)
        exact ⟨⟨c + 1, by omega, by go_num, Lib.hid (by rw [Hst.out]; exact HQ.out), Hbq⟩, by simp [intOf]; omega⟩
       ·rw [hb] at hIn hst
        rw [if_pos rfl] at hst
        have HIn := Lib.hid hIn; have Hst := Lib.hid hst
        clear hIn hst hb hmq hmql hwc
        go_wp2_with (first
         | (go_at_call 39; refine HIn.out.mono ?_; rintro e w1' ⟨rfl, rfl⟩)
         | (at_builtin; go_must (refine wpList_appI wr Tryz.infoInt rfl rfl Tryz.underlying25 w5.heap.size HQ.out rfl rfl Hwc.out Hmql.out hz ?_); intro a9 n9 c9 w9 ho9 hb9; have Ho9 := Lib.hid ho9; have Hb9 := Lib.hid (hb9 _ _ (Nat.le_refl _) Hbq.out); clear ho9 hb9))
        exact ⟨⟨c + 1, by omega, by go_num, Lib.hid (by rw [Hst.out]; exact Ho9.out), Hb9⟩, by simp [intOf]; omega⟩
      ·obtain rfl : c = C := by omega
       have h45 : w.heap.size + 1 < G := by have := HZ0.out; omega
       have hGt : G < wt.heap.size := qa0 HJ.out.bx
       have htq : Below wt.heap.size wt wr := bt B5.out Hbq.out
       have hJq := HJ.out.later htq.drew
       have h0q : Below W0.heap.size W0 wr.drew := (bt Hbt.out htq).drew
       have hlt5 := B5.out.size
       have hrow0 : RInts (Rz (w.heap.size + 1) G wr (.slice ar mr cr) (.slice at_ mt ct)) wr (.slice aq mq cq) ((rngI c).filter fun y => (namL perm am).contains y) := HJ.out.fresh (w1 := wr) h45 (Own.rebase HQ.out hlt5) hmql
       have hrow : RInts (Rz (w.heap.size + 1) G wr.drew (.slice ar mr cr) (.slice at_ mt ct)) wr.drew (.slice aq mq cq) ((rngI c).filter fun y => (namL perm am).contains y) :=
        hrow0.same (.of_below (Below.drew (Below.refl _ _)))
       obtain ⟨W9, hW9⟩ : ∃ W9, W9 = (wr.alloc (.cells #[.int .i64 ch] 3)).drew := ⟨_, rfl⟩
       have hb9 : Below wr.drew.heap.size wr.drew W9 := by rw [hW9]; exact qa1 wr.drew _
       have hlit : RInts Any W9 (.slice (some ⟨wr.heap.size, 0, none⟩) 1 1) [ch] := qb4 (xs := [ch]) (by rw [hW9]; exact qa9 wr.drew _) (by intro x hx; rw [List.mem_singleton.1 hx]; exact Hwf.out) (by simp)
       have hN9 := HNm.out W9 (bt h0q hb9) Any _ _ _ [ch] hlit (by simp)
       have hD : ∀ w9 a9 m9 c9, Below W9.heap.size W9 w9 → Own W9.heap.size 3 1 (dInt .i64) w9 (.slice a9 m9 c9) (namL perm [ch]) → ∃ g9 o9 q, a9 = some ⟨g9, o9, none⟩ ∧ m9 = 1 ∧ w9.cell? ⟨g9, o9, none⟩ = some (.int .i64 q) ∧
         dTie (Rz (w.heap.size + 1) G w9 (.slice ar mr cr) (.slice at_ mt ct)) w9 [.slice aq mq cq, .int .i64 q] (renTie perm ⟨am, ch⟩) := fun w9 a9 m9 c9 b9 o9 => by
        have hlen := Own.len o9
        obtain ⟨g9, f9, cc, rfl, -, -, hcc, hdd⟩ := RSl.at1 (Own.rsl o9 (by rw [qau]; simp)) 0 (by rw [qau]; simp)
        obtain ⟨rfl, hwq⟩ := hdd.open
        have hq : gI (namL perm [ch]) 0 = (namL perm [ch])[0]'(by rw [qau]; simp) := by simp [gI, namL]
        have hren : renTie perm ⟨am, ch⟩ = ⟨(rngI c).filter fun y => (namL perm am).contains y, (namL perm [ch])[0]'(by rw [qau]; simp)⟩ := by rw [renTie, Hpl.out, hq]
        have hrow9 : RInts (Rz (w.heap.size + 1) G w9 (.slice ar mr cr) (.slice at_ mt ct)) w9 (.slice aq mq cq) ((rngI c).filter fun y => (namL perm am).contains y) := (hrow.same (.of_below (bt hb9 b9))).mono (Rz.up (bt hb9 b9).size (.inl rfl) (.inl rfl))
        rw [hren]
        exact ⟨g9, f9, _, rfl, by rw [hlen, qau]; rfl, hcc, ⟨_, rfl, hwq, hrow9⟩⟩
       have hS0 : ∀ W, Below wr.drew.heap.size wr.drew W → (fun w' : World => w'.cell? ⟨G, 2, none⟩ = some (.slice at_ mt ct) ∧ w'.cell? ⟨w.heap.size, 2, none⟩ = some (.slice (some ⟨b, off, none⟩) M c3) ∧ w'.cell? ⟨b, off + j * 2 + 1, none⟩ = some (.int .i64 ch)) W := fun W hW => by
        obtain ⟨-, -, j1, -⟩ := box3 (hJq.later hW).bx (Below.refl _ _)
        obtain ⟨-, -, j2, -⟩ := box3 G0.out (bt h0q hW)
        exact ⟨j1, j2, (Same.of_below (S := Any) (bt htq.drew hW)).cell trivial e1⟩
       have hS1 : ∀ w6 w7, Below wr.drew.heap.size wr.drew w6 → w6.grownBy w7 (Value.slice at_ mt ct).ownBlock → (fun w' : World => w'.cell? ⟨G, 2, none⟩ = some (.slice at_ mt ct) ∧ w'.cell? ⟨w.heap.size, 2, none⟩ = some (.slice (some ⟨b, off, none⟩) M c3) ∧ w'.cell? ⟨b, off + j * 2 + 1, none⟩ = some (.int .i64 ch)) w7 := fun w6 w7 hW hg => by
        obtain ⟨h1, h2, h3⟩ := hS0 w6 hW
        have k1 : ∀ b o v, b < G + 1 → w6.cell? ⟨b, o, none⟩ = some v → w7.cell? ⟨b, o, none⟩ = some v := fun b o v hb hc => (World.cell?_of_block (w := w6) (hg.block b (qad hc) (fun e => by have := (Own.lt HJ.out.ti b e.symm).1; omega))).trans hc
        have hbW := HZ0.out
        exact ⟨k1 _ _ _ (by omega) h1, k1 _ _ _ (by omega) h2, k1 _ _ _ (by have := Hbw0.out; omega) h3⟩
       have HJq := Lib.hid hJq; have HN9 := Lib.hid hN9; have HD := Lib.hid hD; have HS0 := Lib.hid hS0; have HS1 := Lib.hid hS1; have HW9 := Lib.hid hW9; have HB9 := Lib.hid hb9
       clear hJq hN9 hD hS0 hS1 hW9 hb9 hlit hrow hrow0 htq h0q e0 e1 p2 hmq hmql
       go_wp2
       refine qal (S := (fun w' : World => w'.cell? ⟨G, 2, none⟩ = some (.slice at_ mt ct) ∧ w'.cell? ⟨w.heap.size, 2, none⟩ = some (.slice (some ⟨b, off, none⟩) M c3) ∧ w'.cell? ⟨b, off + j * 2 + 1, none⟩ = some (.int .i64 ch))) (L := [18]) (by kernel_rfl) (HS0.out _ (Below.refl _ _)) (fun hHeld => ?_)
       refine tk 0 ?_ rfl hHeld ?_ ?_
       rotate_left
       ·intro w hSw; (try dsimp only at hSw); go_simp; try (with_reducible rfl)
       (try simp only [la, lb, lc, ld, lf, lg, lh])
       refine tk 1 ?_ rfl hHeld ?_ ?_
       rotate_left
       ·intro w hSw; (try dsimp only at hSw); go_simp; try (with_reducible rfl)
       (try simp only [la, lb, lc, ld, lf, lg, lh])
       refine tk 2 ?_ rfl hHeld ?_ ?_
       rotate_left
       ·intro w hSw; (try dsimp only at hSw); go_simp; try (with_reducible rfl)
       (try simp only [la, lb, lc, ld, lf, lg, lh])
       refine tk 3 ?_ rfl hHeld ?_ ?_
       rotate_left
       ·intro w hSw; (try dsimp only at hSw); go_simp; try (with_reducible rfl)
       (try simp only [la, lb, lc, ld, lf, lg, lh])
       refine tk 4 ?_ rfl hHeld ?_ ?_
       rotate_left
       ·intro w hSw; (try dsimp only at hSw); go_simp; try (with_reducible rfl)
       (try simp only [la, lb, lc, ld, lf, lg, lh])
       refine tk 5 ?_ rfl hHeld ?_ ?_
       rotate_left
       ·intro w hSw; (try dsimp only at hSw); go_simp; try (with_reducible rfl)
       (try simp only [la, lb, lc, ld, lf, lg, lh])
       refine tk 6 ?_ rfl hHeld ?_ ?_
       rotate_left
       ·intro w hSw; (try dsimp only at hSw); go_simp; try (with_reducible rfl)
       (try simp only [la, lb, lc, ld, lf, lg, lh])
       refine tk 7 ?_ rfl hHeld ?_ ?_
       rotate_left
       ·intro w hSw; (try dsimp only at hSw); go_simp; try (with_reducible rfl)
       (try simp only [la, lb, lc, ld, lf, lg, lh])
       refine tk 8 ?_ rfl hHeld ?_ ?_
       rotate_left
       ·intro w hSw; (try dsimp only at hSw); go_simp; try (with_reducible rfl)
       (try simp only [la, lb, lc, ld, lf, lg, lh])
       refine tk 10 ?_ rfl hHeld ?_ ?_
       rotate_left
       ·intro w hSw; (try dsimp only at hSw); go_simp; try (with_reducible rfl)
       (try simp only [la, lb, lc, ld, lf, lg, lh])
       refine qa7 (i := 9) (by kernel_rfl) rfl (fun K hK => ?_)
       go_simp
       refine hK.out _ _ (HS0.out _ (by first | exact HW9.out ▸ HB9.out | exact qa1 _ _)) (fun hHeld => ?_)
       clear hK K
       (try simp only [la, lb, lc, ld, lf, lg, lh])
       refine qa7 (i := 11) (by kernel_rfl) rfl (fun K hK => ?_)
       (go_simp; go_at_call 89; rw [← HW9.out]; refine HN9.out.mono ?_; rintro e w9 ⟨v9, rfl, ho, hb9⟩; obtain ⟨a9, m9, c9, rfl⟩ := Own.slice ho; obtain ⟨g9, o9, q9, rfl, rfl, hc9, hd9⟩ := HD.out _ _ _ _ hb9 ho; have HD9 := Lib.hid hd9; have B9 := Lib.hid (bt HB9.out hb9); have HJ9 := Lib.hid (HJq.out.later B9.out); have hz9 : G + 1 ≤ w9.heap.size := qa0 HJ9.out.bx; clear ho hb9 hd9)
       refine hK.out _ _ (HS0.out _ B9.out) (fun hHeld => ?_)
       clear hK K
       (try simp only [la, lb, lc, ld, lf, lg, lh])
       refine tk 12 ?_ rfl hHeld ?_ ?_
       rotate_left
       ·intro w hSw; (try dsimp only at hSw); go_simp; try (with_reducible rfl)
       (try simp only [la, lb, lc, ld, lf, lg, lh])
       refine qa7 (i := 13) (by kernel_rfl) rfl (fun K hK => ?_)
       go_simp
       refine hK.out _ _ (HS0.out _ B9.out) (fun hHeld => ?_)
       clear hK K
       (try simp only [la, lb, lc, ld, lf, lg, lh])
       refine tk 14 ?_ rfl hHeld ?_ ?_
       rotate_left
       ·intro w hSw; (try dsimp only at hSw); go_simp; try (with_reducible rfl)
       (try simp only [la, lb, lc, ld, lf, lg, lh])
       refine qa7 (i := 15) (by kernel_rfl) rfl (fun K hK => ?_)
       go_simp
       refine hK.out _ _ (HS0.out _ (bt B9.out (qa1 _ _))) (fun hHeld => ?_)
       clear hK K
       (try simp only [la, lb, lc, ld, lf, lg, lh])
       refine qa7 (i := 16) (by kernel_rfl) rfl (fun K hK => ?_)
       (refine step_appF w9 Tryz.infoTie rfl rfl Tryz.underlying30 ⟨rfl, by omega, by omega, by omega⟩ (dTie.one _) (dTie.stable _) (G + 1) HJ9.out.ti (fun b hb => hb.2.2.2.2) rfl (cs := [.slice aq mq cq, .int .i64 q9]) rfl HD9.out rfl Hmtl.out hz9 ?_; intro a7 n7 c7 w7 ho7 hB7 hg7 hl7; have HJ7 := Lib.hid (HJ9.out.tie ho7 hB7 hg7 hl7); have HS7 := Lib.hid (HS1.out _ _ B9.out hg7); have g7 := HJ9.out.grown hg7 (fun k hk => (Own.lt HJ9.out.ti k hk).1); obtain ⟨-, z7, f7⟩ := qa5 (Below.refl _ w7) (qa0 g7) g7; have z71 := z7 2; have f71 := f7 2; clear ho7 hB7 hg7 hl7 z7 f7 g7)
       refine hK.out _ _ HS7.out (fun hHeld => ?_)
       clear hK K
       (try simp only [la, lb, lc, ld, lf, lg, lh])
       refine tk 17 ?_ rfl hHeld ?_ ?_
       rotate_left
       ·intro w hSw; (try dsimp only at hSw); go_simp; try (with_reducible rfl)
       (try simp only [la, lb, lc, ld, lf, lg, lh])
       refine qb3 (i := 18) (by kernel_rfl) rfl (by kernel_rfl) (fun K hK => ?_)
       go_simp
       refine hK.out _ _ ?_
       clear hK K
       (try simp only [la, lb, lc, ld, lf, lg, lh])
       refine qai (by kernel_rfl) ?_ _
       go_wp2
       exact ⟨⟨j + 1, _, by omega, by go_num, Lib.hid (by rw [Hstep.out]; exact HJ7.out)⟩, by simp [intOf]; omega⟩
    ·obtain rfl : j = M := by omega
     have hfull := HJ.out
     rw [List.take_of_length_le (by rw [HM.out]; exact Nat.le_refl _)] at hfull
     have hmt2 : (ties.map (renTie perm)).length = mt := by rw [← hmt, List.take_of_length_le (by rw [HM.out]; exact Nat.le_refl _)]
     have h45 : w.heap.size + 1 < G := by have := HZ0.out; omega
     have hu : ∀ b, Rz (w.heap.size + 1) G wt (.slice ar mr cr) (.slice at_ mt ct) b → b ≠ w.heap.size + 1 := fun b hb => hb.2.1
     have q1 : RInts (fun b => b ≠ w.heap.size + 1) wt (.slice b1 n1 d1) (namL perm el) := hfull.el.mono hu
     have q2 : RRnds (fun b => b ≠ w.heap.size + 1) wt (.slice ar mr cr) (rounds.map (renRnd perm)) := RSl.mono (fun _ _ _ hd => dRnd.mono hu hd) (fun b hb => by have : G + 1 ≤ b := hb; omega) (Own.rsl hfull.rd (by rw [List.length_map]; have := HN.out; omega))
     have q3 : RTies (fun b => b ≠ w.heap.size + 1) wt (.slice at_ mt ct) (ties.map (renTie perm)) := RSl.mono (fun _ _ _ hd => dTie.mono hu hd) (fun b hb => by have : G + 1 ≤ b := hb; omega) (Own.rsl hfull.ti (by rw [List.length_map]; have := HM.out; omega))
     have hv : VOutc (fun b => b ≠ w.heap.size + 1) wt (.agg #[.slice b1 n1 d1, .slice ar mr cr, .slice at_ mt ct]) (renO perm ⟨el, rounds, ties⟩) := ⟨_, _, _, rfl, q1, q2, q3⟩
     obtain ⟨u0, u1, u2, ul⟩ := box3 hfull.bx (Below.refl _ _)
     obtain ⟨gg4, z4, f4⟩ := qa5 hbt (qa0 G4.out) G4.out
     have z40 := z4 0; have z41 := z4 1; have z42 := z4 2
     have f40 := f4 0; have f41 := f4 1; have f42 := f4 2
     have hl4 : w.heap.size + 1 < wt.heap.size := qa0 gg4
     have hbw : Below w.heap.size w wt := bt HB0.out hbt
     have HV := Lib.hid hv; have Hbw := Lib.hid hbw
     clear hfull hmt2 hu q1 q2 q3 hv hbw z4 f4 gg4 hmt hmtl
     go_wp2
     refine bodyPost_ret (v := .agg #[.slice b1 n1 d1, .slice ar mr cr, .slice at_ mt ct]) (by simp [results, Tryz.results31, go_sem, z40, z41, z42]) rfl ⟨_, _, _, _, _, _, _, _, _, rfl, ?_, ?_⟩
     ·exact VOutc.mono (fun _ _ => trivial) (HV.out.same ((((Same.refl _ _).setCell (p := ⟨w.heap.size + 1, 0, none⟩) (by simp) _).setCell (p := ⟨w.heap.size + 1, 1, none⟩) (by simp) _).setCell (p := ⟨w.heap.size + 1, 2, none⟩) (by simp) _))
     ·exact ((Hbw.out.setCell (p := ⟨w.heap.size + 1, 0, none⟩) (by simp) _).setCell (p := ⟨w.heap.size + 1, 1, none⟩) (by simp) _).setCell (p := ⟨w.heap.size + 1, 2, none⟩) (by simp) _
end
end Go.Proofs.YthcbkhfmdginiaaGreat
