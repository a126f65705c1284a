/- Texts of one claim,put together: HeldL,RenP,RenQ,SumP,RenG,RenH,RenI,RenJ,RenM,RenF,SeatP,TiesP,RenK,RenN,HeldM. -/
import Derived.Test.YthcbkhfmdginiaaGreatRGOne
import Derived.Test.YthcbkhfmdginiaaGreatRGRul
import Derived.Deep.RegionHeld3
import Derived.Laws.MakeOwn

namespace Go.Proofs.YthcbkhfmdginiaaGreat
section
open Go

section
variable {P : Program} {ops : Array Oper} {Q : Exit → Act → World → Prop} {md : Region.Mode} {S : World → Prop} {L : List Nat}
def wpAnyL (P : Program) (md : Region.Mode) (ops : Array Oper) (Q : Exit → Act → World → Prop) (S : World → Prop) (L : List Nat) : Nat → Array Bool → Act → World → Prop
 | 0,listed,a,w => Region.ready md ops listed = [] ∧ Q .normal a w
 | fuel + 1,listed,a,w =>
  (Region.ready md ops listed = [] → Q .normal a w) ∧
  ∀ i ∈ Region.ready md ops listed,wpOp P ops Q i (fun a' w' => (i ∉ L → S w') ∧ wpAnyL P md ops Q S L fuel (listed.setIfInBounds i true) a' w') a w
theorem wpAny_of_L : ∀ (fuel : Nat) (listed : Array Bool) (a : Act) (w : World),wpAnyL P md ops Q S L fuel listed a w → wpAny P md ops Q fuel listed a w
 | 0,_,_,_,h => h
 | fuel + 1,_,_,_,h => ⟨h.1,fun i hi => wpOp_mono (fun a' w' h' => wpAny_of_L fuel _ a' w' h'.2) (h.2 i hi)⟩
def waits (md : Region.Mode) (ops : Array Oper) (L : List Nat) (i : Nat) : Bool := L.all fun l => match ops[l]? with
 | none => true
 | some o => l != i && o.after.any fun e => Region.binds md e && e.on == i
theorem wpAnyL_first {i : Nat} {oi : Oper} {v : Value} (hi : ops[i]? = some oi) (hsel : ∀ (j : Nat) (o : Oper) cs b,ops[j]? = some o → o.op ≠ .select cs b)
  (hQ : ∀ c a w,Q (.panic c) (a.put oi.dst v) w → Q (.panic c) a w) (hL : waits md ops L i = true) :
  ∀ (fuel : Nat) (listed : Array Bool) (a : Act) (w : World),
   (∀ j oj,ops[j]? = some oj → j ≠ i → listed.getD j true = false → (∀ e ∈ oj.after,Region.binds md e = true → e.on ≠ i) → oi.apart ops oj = true) →
   i ∈ Region.ready md ops listed → YieldsIf P ops S oi v a → S w →
   wpAnyL P md ops Q S L fuel (listed.setIfInBounds i true) (a.put oi.dst v) w → wpAnyL P md ops Q S L (fuel + 1) listed a w := by
 intro fuel
 induction fuel with
 | zero =>
  intro listed a w _ hr hy hS H
  refine ⟨fun h => (by rw [h] at hr;cases hr),fun j hj => ?_⟩
  by_cases hji : j = i
  ·subst hji;exact hy.wpOp hi hS ⟨fun _ => hS,H⟩
  ·have := ready_mono hj hji
   rw [H.1] at this
   cases this
 | succ fuel ih =>
  intro listed a w hfree hr hy hS H
  refine ⟨fun h => (by rw [h] at hr;cases hr),fun j hj => ?_⟩
  by_cases hji : j = i
  ·subst hji;exact hy.wpOp hi hS ⟨fun _ => hS,H⟩
  ·have h1 := H.2 j (ready_mono hj hji)
   obtain ⟨hjun,oj,hoj,hall⟩ := mem_ready.1 hj
   have hnot : ∀ e ∈ oj.after,Region.binds md e = true → e.on ≠ i := fun e he hb heq => by
    have h1 := hall e he hb
    have h0 := (mem_ready.1 hr).1
    rw [heq] at h1
    rcases Nat.lt_or_ge i listed.size with h' | h'
    ·simp [h'] at h0 h1;rw [h0] at h1;cases h1
    ·simp [Array.getElem?_eq_none h'] at h1
   have hjL : j ∉ L := fun hm => by
    have h5 := List.all_eq_true.1 hL j hm
    simp only [hoj] at h5
    obtain ⟨-,h6⟩ := Bool.and_eq_true_iff.1 h5
    obtain ⟨e,he,h7⟩ := Array.any_eq_true'.1 h6
    obtain ⟨h8,h9⟩ := Bool.and_eq_true_iff.1 h7
    exact hnot e he h8 (by simpa using h9)
   have h2 := wpOp_putIf hoj (hfree j oj hoj hji hjun hnot) (fun cs b => hsel i oi cs b hi) (fun cs b => hsel j oj cs b hoj) hQ hy h1
   have hfree' : ∀ k ok,ops[k]? = some ok → k ≠ i → (listed.setIfInBounds j true).getD k true = false →
     (∀ e ∈ ok.after,Region.binds md e = true → e.on ≠ i) → oi.apart ops ok = true := fun k ok hk hki hun hno => by
    refine hfree k ok hk hki ?_ hno
    by_cases hjk : j = k
    ·subst hjk;exact hjun
    ·rw [getD_set_ne true hjk] at hun;exact hun
   refine wpOp_mono (fun a' w' h3 => ⟨h3.2.1,ih (listed.setIfInBounds j true) a' w' hfree' (ready_mono hr (Ne.symm hji)) h3.1 (h3.2.1 hjL) ?_⟩) h2
   rw [Array.setIfInBounds_comm _ _ hji]
   exact h3.2.2
theorem wpAnyL_take {i : Nat} {oi : Oper} {v : Value} {fuel : Nat} {listed : Array Bool} {a : Act} {w : World} (hi : ops[i]? = some oi)
  (hs : Region.noSelect ops = true) (hf : Region.free md ops listed i = true) (hr : (Region.ready md ops listed).contains i = true) (hL : waits md ops L i = true)
  (hQ : ∀ c a w,Q (.panic c) (a.put oi.dst v) w → Q (.panic c) a w) (hy : YieldsIf P ops S oi v a) (hS : S w)
  (h : wpAnyL P md ops Q S L fuel (listed.setIfInBounds i true) (a.put oi.dst v) w) : wpAnyL P md ops Q S L (fuel + 1) listed a w :=
 wpAnyL_first hi (Region.noSelect_spec hs) hQ hL fuel listed a w (Region.free_spec hi hf) (by simpa using hr) hy hS h
theorem qa9 {i : Nat} {fuel : Nat} {listed : Array Bool} {a : Act} {w : World} {o : Oper} (hr : Region.ready md ops listed = [i]) (ho : ops[i]? = some o)
  (h : ∀ K' : Act → World → Prop,Shut (∀ a w,S w → (S w → wpAnyL P md ops Q S L fuel (listed.setIfInBounds i true) a w) → K' a w) → if Region.wanted o (yielded ops a.tmps) = true then Oper.wp P o a w K' Q else K' (a.put o.dst undef) w) :
  wpAnyL P md ops Q S L (fuel + 1) listed a w := by
 refine ⟨fun h0 => absurd (hr ▸ h0) (by simp),hr ▸ fun j hj => ?_⟩
 rcases List.mem_cons.1 hj with rfl | hj
 ·exact wpOp_step ho (fun K' hK => h K' (fun a w hS hW => hK a w ⟨fun _ => hS,hW hS⟩))
 ·cases hj
theorem wpAnyL_last {i : Nat} {fuel : Nat} {listed : Array Bool} {a : Act} {w : World} {o : Oper} (hr : Region.ready md ops listed = [i]) (ho : ops[i]? = some o) (hi : L.contains i = true)
  (h : ∀ K' : Act → World → Prop,Shut (∀ a w,wpAnyL P md ops Q S L fuel (listed.setIfInBounds i true) a w → K' a w) → if Region.wanted o (yielded ops a.tmps) = true then Oper.wp P o a w K' Q else K' (a.put o.dst undef) w) :
  wpAnyL P md ops Q S L (fuel + 1) listed a w := by
 refine ⟨fun h0 => absurd (hr ▸ h0) (by simp),hr ▸ fun j hj => ?_⟩
 rcases List.mem_cons.1 hj with rfl | hj
 ·exact wpOp_step ho (fun K' hK => h K' (fun a w hW => hK a w ⟨fun hn => absurd (by simpa using hi) hn,hW⟩))
 ·cases hj
theorem wpAnyL_two {i j : Nat} {fuel : Nat} {listed : Array Bool} {a : Act} {w : World} {o p : Oper} (hr : Region.ready md ops listed = [i,j]) (ho : ops[i]? = some o) (hp : ops[j]? = some p)
  (h : ∀ K' : Act → World → Prop,Shut (∀ a w,S w → (S w → wpAnyL P md ops Q S L fuel (listed.setIfInBounds i true) a w) → K' a w) → if Region.wanted o (yielded ops a.tmps) = true then Oper.wp P o a w K' Q else K' (a.put o.dst undef) w)
  (k : ∀ K' : Act → World → Prop,Shut (∀ a w,S w → (S w → wpAnyL P md ops Q S L fuel (listed.setIfInBounds j true) a w) → K' a w) → if Region.wanted p (yielded ops a.tmps) = true then Oper.wp P p a w K' Q else K' (a.put p.dst undef) w) :
  wpAnyL P md ops Q S L (fuel + 1) listed a w := by
 refine ⟨fun h0 => absurd (hr ▸ h0) (by simp),hr ▸ fun l hl => ?_⟩
 rcases List.mem_cons.1 hl with rfl | hl
 ·exact wpOp_step ho (fun K' hK => h K' (fun a w hS hW => hK a w ⟨fun _ => hS,hW hS⟩))
 ·rcases List.mem_cons.1 hl with rfl | hl
  ·exact wpOp_step hp (fun K' hK => k K' (fun a w hS hW => hK a w ⟨fun _ => hS,hW hS⟩))
  ·cases hl
theorem qam {listed : Array Bool} {a : Act} {w : World} (hr : Region.ready md ops listed = []) (h : Q .normal a w) :
  ∀ fuel,wpAnyL P md ops Q S L fuel listed a w
 | 0 => ⟨hr,h⟩
 | _ + 1 => ⟨fun _ => h,by rw [hr];simp⟩
theorem qat {id : Nat} {a : Act} {w : World} (hm : P.follows .mixedOrders = true) (hS : S w.drew)
  (h : S w.drew → wpAnyL P .any ops Q S L ops.size (Array.replicate ops.size false) a w.drew) : (Code.region id ops true).wp P Q a w :=
 wp_region_any hm (wpAny_of_L _ _ _ _ (h hS))
end
end

section

theorem gI_mem {perm : List Int} {C : Nat} (hp : LotOf perm C) {x : Int} (h0 : 0 ≤ x) (h1 : x < C) : 0 ≤ gI perm x ∧ gI perm x < C := by
 obtain ⟨n,rfl⟩ : ∃ n : Nat,x = n := ⟨x.toNat,by omega⟩
 rw [gI_at (by rw [hp.len];omega)]
 exact (hp.all _).1 (List.getElem_mem _)
theorem idx_gI {perm : List Int} {C : Nat} (hp : LotOf perm C) {n : Nat} (h : n < C) : perm.idxOf (gI perm (n : Int)) = n := by
 have hn : n < perm.length := by rw [hp.len];omega
 rw [gI_at hn]
 exact List.Nodup.idxOf_getElem hp.nodup n hn
theorem idx_lt {perm : List Int} {C : Nat} (hp : LotOf perm C) {z : Int} (h0 : 0 ≤ z) (h1 : z < C) : perm.idxOf z < C ∧ gI perm (perm.idxOf z : Nat) = z := by
 have h := List.idxOf_lt_length_of_mem ((hp.all z).2 ⟨h0,h1⟩)
 rw [gI_at h]
 exact ⟨by rw [← hp.len];exact h,List.getElem_idxOf h⟩
theorem gI_bound {l : List Int} {B : Int} (hB : 0 ≤ B) (h : ∀ m ∈ l,0 ≤ m ∧ m ≤ B) (x : Int) : 0 ≤ gI l x ∧ gI l x ≤ B := by
 rw [gI,List.getD_eq_getElem?_getD]
 by_cases hx : x.toNat < l.length
 ·rw [List.getElem?_eq_getElem hx];exact h _ (List.getElem_mem hx)
 ·rw [List.getElem?_eq_none (by omega)];exact ⟨by simp,by simpa using hB⟩
end

section

def permK {α : Type} (z0 : α) (perm : List Int) (xs : List α) (k : Nat) : List α := (List.range xs.length).map fun (z : Nat) => if perm.idxOf (z : Int) < k then xs.getD (perm.idxOf (z : Int)) z0 else z0
theorem qb0 {α : Type} (z0 : α) (perm : List Int) (xs : List α) (k : Nat) : (permK z0 perm xs k).length = xs.length := by simp [permK]
theorem permK_get {α : Type} {z0 : α} {perm : List Int} {xs : List α} {k z : Nat} (h : z < (permK z0 perm xs k).length) : (permK z0 perm xs k)[z] = if perm.idxOf (z : Int) < k then xs.getD (perm.idxOf (z : Int)) z0 else z0 := by simp [permK]
theorem permK_zero {α : Type} (z0 : α) (perm : List Int) (xs : List α) : permK z0 perm xs 0 = List.replicate xs.length z0 := by
 apply List.ext_getElem (by simp [qb0])
 intro i h1 h2
 rw [permK_get,if_neg (by omega),List.getElem_replicate]
theorem permK_step {α : Type} {z0 : α} {perm : List Int} {xs : List α} (hp : LotOf perm xs.length) {k : Nat} (hk : k < xs.length) :
  permK z0 perm xs (k + 1) = (permK z0 perm xs k).set (gI perm (k : Int)).toNat xs[k] := by
 obtain ⟨g0,g1⟩ := gI_mem hp (x := (k : Int)) (by omega) (by omega)
 apply List.ext_getElem (by rw [List.length_set,qb0,qb0])
 intro z h1 h2
 have hz : z < xs.length := by rw [qb0] at h1;exact h1
 rw [permK_get,List.getElem_set]
 by_cases he : (gI perm (k : Int)).toNat = z
 ·rw [if_pos he]
  have e : (z : Int) = gI perm (k : Int) := by omega
  rw [e,idx_gI hp hk,if_pos (by omega),List.getD_eq_getElem?_getD,List.getElem?_eq_getElem hk];rfl
 ·rw [if_neg he, permK_get]
  have hne : perm.idxOf (z : Int) ≠ k := fun h => he (by
   have := (idx_lt hp (z := (z : Int)) (by omega) (by omega)).2
   rw [h] at this;omega)
  by_cases hl : perm.idxOf (z : Int) < k
  ·rw [if_pos hl,if_pos (by omega)]
  ·rw [if_neg hl,if_neg (by omega)]
end

section

theorem flat_length {α : Type} : ∀ {ls : List (List α)},(∀ l ∈ ls,l.length = 3) → ls.flatten.length = 3 * ls.length
 | [],_ => rfl
 | a :: ls,h => by
  have := flat_length (ls := ls) fun l hl => h l (List.mem_cons_of_mem _ hl)
  rw [List.flatten_cons,List.length_append,this,h a (by simp),List.length_cons];omega
theorem flat_get {α : Type} : ∀ {ls : List (List α)},(∀ l ∈ ls,l.length = 3) → ∀ i (hi : i < ls.length) j (_ : j < 3),ls.flatten[3 * i + j]? = ls[i][j]?
 | [],_,i,hi,_,_ => absurd hi (by simp)
 | a :: ls,h,0,_,j,_ => by
  have ha := h a (by simp)
  rw [List.flatten_cons,List.getElem?_append_left (by omega)]
  simp
 | a :: ls,h,i + 1,hi,j,hj => by
  have ha := h a (by simp)
  rw [List.flatten_cons,List.getElem?_append_right (by omega),ha,show 3 * (i + 1) + j - 3 = 3 * i + j by omega]
  rw [flat_get (ls := ls) (fun l hl => h l (List.mem_cons_of_mem _ hl)) i (by simpa using hi) j hj]
  simp
theorem flat_set {α : Type} : ∀ {ls : List (List α)},(∀ l ∈ ls,l.length = 3) → ∀ i (_ : i < ls.length) (a b c : α),(ls.set i [a,b,c]).flatten = ((ls.flatten.set (3 * i) a).set (3 * i + 1) b).set (3 * i + 2) c
 | [],_,i,hi,_,_,_ => absurd hi (by simp)
 | l :: ls,h,0,_,a,b,c => by
  have hl := h l (by simp)
  match l,hl with
  | [x,y,z],_ => rfl
 | l :: ls,h,i + 1,hi,a,b,c => by
  have hl := h l (by simp)
  have ih := flat_set (ls := ls) (fun q hq => h q (List.mem_cons_of_mem _ hq)) i (by simpa using hi) a b c
  rw [List.set_cons_succ,List.flatten_cons,List.flatten_cons,ih]
  rw [List.set_append_right _ _ (by omega),List.set_append_right _ _ (by omega),List.set_append_right _ _ (by omega),hl]
  rw [show 3 * (i + 1) - 3 = 3 * i by omega,show 3 * (i + 1) + 1 - 3 = 3 * i + 1 by omega,show 3 * (i + 1) + 2 - 3 = 3 * i + 2 by omega]
end

section

def winL (had lot : List Int) (i : Nat) : Int := firstL lot (bestL (gI had) (seatSt had lot i).left)
section
variable {had lot : List Int} {n : Nat}
end
end

section

structure TieAt (had lot : List Int) (n : Nat) (t : Tie) (j : Nat) : Prop where
 lt : j < n
 two : 2 ≤ t.among.length
 first : firstL lot t.among = t.chosen
 win : t.chosen = winL had lot j
 cand : 0 ≤ t.chosen ∧ t.chosen < had.length
 range : ∀ k (h : k < t.among.length),0 ≤ t.among[k] ∧ t.among[k] < had.length
 asc : ∀ k (h : k < t.among.length),0 < k → t.among[k - 1] < t.among[k]
 pts : ∀ k (h : k < t.among.length),gI had t.among[k] = gI had t.chosen
end

section

def zRt : Rt := ⟨false,[],[]⟩
end

section
open Go Go.RowKit Go.Shelf

def zC3 : List Value := [.bool false,.slice none 0 0,.slice none 0 0]
def chunks (cells : List Value) (n : Nat) : List (List Value) := (List.range n).map fun i => (cells.drop (i * 3)).take 3
theorem chunks_length (cells : List Value) (n : Nat) : (chunks cells n).length = n := by simp [chunks]
theorem chunks_three {cells : List Value} {n : Nat} (h : cells.length = n * 3) : ∀ l ∈ chunks cells n,l.length = 3 := by
 intro l hl
 obtain ⟨i,hi,rfl⟩ := List.mem_map.1 hl
 have hi' := List.mem_range.1 hi
 rw [List.length_take,List.length_drop,h];omega
theorem permK_three {perm : List Int} {CL : List (List Value)} (h : ∀ l ∈ CL,l.length = 3) (k : Nat) : ∀ l ∈ permK zC3 perm CL k,l.length = 3 := by
 intro l hl
 obtain ⟨z,hz,rfl⟩ := List.mem_map.1 hl
 split
 ·rw [List.getD_eq_getElem?_getD]
  cases hq : CL[perm.idxOf (z : Int)]? with
  | none => rfl
  | some x => exact h x (List.mem_of_getElem? hq)
 ·rfl
theorem made_three (n : Nat) : madeCells #[.bool false,.slice none 0 0,.slice none 0 0] (n * 3) = ((List.replicate n zC3).flatten).toArray := by
 apply Array.ext'
 apply List.ext_getElem?
 intro i
 have h3 : ∀ l ∈ List.replicate n zC3,l.length = 3 := fun l hl => by rw [(List.mem_replicate.1 hl).2];rfl
 have hfl := flat_length h3
 rw [List.length_replicate] at hfl
 have hsz : (madeCells #[.bool false,.slice none 0 0,.slice none 0 0] (n * 3)).toList.length = 3 * n := by simp [madeCells];omega
 by_cases hi : i < 3 * n
 ·have h1 := flat_get h3 (i / 3) (by rw [List.length_replicate]; omega) (i % 3) (Nat.mod_lt _ (by omega))
  rw [Nat.div_add_mod] at h1
  rw [h1,List.getElem_replicate,List.getElem?_eq_getElem (by rw [hsz];exact hi)]
  have hm : i % 3 = 0 ∨ i % 3 = 1 ∨ i % 3 = 2 := by omega
  have he : (madeCells #[.bool false,.slice none 0 0,.slice none 0 0] (n * 3)).toList[i]'(by rw [hsz];exact hi) = (#[.bool false,.slice none 0 0,.slice none 0 0] : Array Value)[i % 3]! := by
   simp [madeCells]
  rw [he]
  rcases hm with hm | hm | hm <;> rw [hm] <;> rfl
 ·rw [List.getElem?_eq_none (by rw [hsz];omega),List.getElem?_eq_none (by show _ ≤ i;rw [hfl];omega)]
def HadB (w : World) (g : Nat) (perm : List Int) (CL : List (List Value)) (k : Nat) : Prop := w.heap[g]? = some (.cells ((permK zC3 perm CL k).flatten).toArray 56 (0,0))
theorem HadB.start (w : World) (perm : List Int) (CL : List (List Value)) {n : Nat} (h : CL.length = n) : HadB (w.alloc (.cells (madeCells #[.bool false,.slice none 0 0,.slice none 0 0] (n * 3)) 56)) w.heap.size perm CL 0 := by
 unfold HadB
 rw [qa8,permK_zero,h,made_three]
theorem HadB.lt {w : World} {g : Nat} {perm : List Int} {CL : List (List Value)} {k : Nat} (h : HadB w g perm CL k) : g < w.heap.size := qa0 h
theorem HadB.cells {w : World} {g : Nat} {perm : List Int} {CL : List (List Value)} {k : Nat} (h : HadB w g perm CL k) (h3 : ∀ l ∈ CL,l.length = 3) {p : Nat} (hp : p < CL.length) :
  (w.cell? ⟨g,p * 3,none⟩).isSome = true ∧ (w.cell? ⟨g,p * 3 + 1,none⟩).isSome = true ∧ (w.cell? ⟨g,p * 3 + 2,none⟩).isSome = true := by
 have hl := flat_length (permK_three (perm := perm) h3 k)
 rw [qb0] at hl
 have hc : ∀ j,j < 3 → (w.cell? ⟨g,p * 3 + j,none⟩).isSome = true := fun j hj => by
  unfold HadB at h
  have hlt : p * 3 + j < (permK zC3 perm CL k).flatten.length := by rw [hl];omega
  rw [cell_of_row w g (p * 3 + j) _ _ (0,0) h,List.getElem?_toArray,List.getElem?_eq_getElem hlt];rfl
 exact ⟨hc 0 (by omega),hc 1 (by omega),hc 2 (by omega)⟩
theorem HadB.frozen {w : World} {g : Nat} {perm : List Int} {CL : List (List Value)} {k : Nat} (h : HadB w g perm CL k) (i : Nat) : w.frozen? ⟨g,i,none⟩ = false := by unfold HadB at h;simp [World.frozen?,h]
theorem HadB.below {w w' : World} {g : Nat} {perm : List Int} {CL : List (List Value)} {k : Nat} (h : HadB w g perm CL k) (hb : Below w.heap.size w w') : HadB w' g perm CL k := (hb.block g h.lt).trans h
theorem HadB.step {w : World} {g : Nat} {perm : List Int} {CL : List (List Value)} {k p : Nat} (h : HadB w g perm CL k) (hp : LotOf perm CL.length) (h3 : ∀ l ∈ CL,l.length = 3) (hk : k < CL.length) (hpk : gI perm (k : Int) = p) {a b c : Value} (he : CL[k] = [a,b,c]) :
  HadB (((w.setCell ⟨g,p * 3,none⟩ a).setCell ⟨g,p * 3 + 1,none⟩ b).setCell ⟨g,p * 3 + 2,none⟩ c) g perm CL (k + 1) := by
 have e := qa2 (o := p * 3 + 2) (qa2 (o := p * 3 + 1) (qa2 (o := p * 3) h a) b) c
 unfold HadB
 rw [e,permK_step hp hk,hpk,he,Int.toNat_natCast]
 have hpl : p < CL.length := by
  have := gI_mem hp (x := (k : Int)) (by omega) (by omega)
  rw [hpk] at this;omega
 rw [flat_set (permK_three (perm := perm) h3 k) p (by rw [qb0];exact hpl)]
 congr 2
 apply Array.ext'
 simp [Nat.mul_comm]
theorem gI_idx {perm : List Int} {C : Nat} (hp : LotOf perm C) {z : Nat} (hz : z < C) : perm.idxOf (z : Int) < C := (idx_lt hp (z := (z : Int)) (by omega) (by omega)).1
theorem HadB.done {S R : Nat → Prop} {w : World} {g C : Nat} {perm : List Int} {cells : List Value} {had : List Rt} (hC : had.length = C) (hl : LotOf perm C) (hd : Dec 3 (dRt S) w cells had) (hS : ∀ b,S b → R b) (hg : R g) (h : HadB w g perm (chunks cells C) C) (h10 : C ≤ 1000) :
  RRts R w (.slice (some ⟨g,0,none⟩) C C) (permK zRt perm had C) := by
 have h3 := chunks_three (n := C) (by rw [hd.1,hC])
 have hp3 := permK_three (perm := perm) h3 C
 have hfl := flat_length hp3
 rw [qb0,chunks_length] at hfl
 have hpl : (permK zRt perm had C).length = C := by rw [qb0,hC]
 refine ⟨_,C,(permK zC3 perm (chunks cells C) C).flatten,by rw [hpl],by omega,by omega,⟨by rw [hfl,hpl];omega,fun z hz => ?_⟩,.inr ⟨g,0,rfl,hg,fun j u hu => ?_⟩⟩
 ·rw [hpl] at hz
  have hi := gI_idx hl hz
  have e : (((permK zC3 perm (chunks cells C) C).flatten.drop (z * 3)).take 3) = (cells.drop (perm.idxOf (z : Int) * 3)).take 3 := by
   apply List.ext_getElem?
   intro j
   by_cases hj : j < 3
   ·rw [List.getElem?_take_of_lt hj, List.getElem?_drop, Nat.mul_comm z 3, flat_get hp3 z (by rw [qb0, chunks_length]; exact hz) j hj, permK_get, if_pos hi]
    have hi2 : perm.idxOf (z : Int) < (chunks cells C).length := by rw [chunks_length];exact hi
    have e1 : (chunks cells C).getD (perm.idxOf (z : Int)) zC3 = (cells.drop (perm.idxOf (z : Int) * 3)).take 3 := by
     rw [List.getD_eq_getElem?_getD,List.getElem?_eq_getElem hi2,Option.getD_some];simp [chunks]
    rw [e1,List.getElem?_take_of_lt hj,List.getElem?_drop]
   ·rw [List.getElem?_eq_none (by rw [List.length_take];omega),List.getElem?_eq_none (by rw [List.length_take];omega)]
  rw [e,permK_get,if_pos hi,List.getD_eq_getElem?_getD,List.getElem?_eq_getElem (by rw [hC];exact hi)]
  exact dRt.mono hS (hd.2 _ (by rw [hC];exact hi))
 ·unfold HadB at h
  have := cell_of_row w g j _ _ (0,0) h
  rw [Nat.zero_add,this]
  simpa using hu
def Rz (g4 g5 : Nat) (w : World) (vr vt : Value) : Nat → Prop := fun b => b < w.heap.size ∧ b ≠ g4 ∧ b ≠ g5 ∧ some b ≠ vr.ownBlock ∧ some b ≠ vt.ownBlock
theorem Rz.up {g4 g5 : Nat} {w w' : World} {ve vt ve' vt' : Value} (hs : w.heap.size ≤ w'.heap.size) (he : ve'.ownBlock = ve.ownBlock ∨ ∃ b,ve'.ownBlock = some b ∧ w.heap.size ≤ b) (ht : vt'.ownBlock = vt.ownBlock ∨ ∃ b,vt'.ownBlock = some b ∧ w.heap.size ≤ b) : ∀ b,Rz g4 g5 w ve vt b → Rz g4 g5 w' ve' vt' b := fun b ⟨h1,h4,h5,h2,h3⟩ => by
 refine ⟨by omega,h4,h5,?_,?_⟩
 ·rcases he with e | ⟨c, e, hc⟩
  ·rw [e];exact h2
  ·rw [e];intro h;cases h;omega
 ·rcases ht with e | ⟨c, e, hc⟩
  ·rw [e];exact h3
  ·rw [e];intro h;cases h;omega
structure ROI (g4 g5 : Nat) (wS wr : World) (ve vr vt : Value) (el : List Int) (rs : List Rnd) (ts : List Tie) : Prop where
 bx : wr.heap[g5]? = some (.cells #[ve,vr,vt] 32 (0,0))
 rd : Own (g5 + 1) 58 6 (dRnd (Rz g4 g5 wr vr vt)) wr vr rs
 ti : Own (g5 + 1) 115 2 (dTie (Rz g4 g5 wr vr vt)) wr vt ts
 el : RInts (Rz g4 g5 wr vr vt) wr ve el
 below : Below g5 wS wr
theorem tie_ne_rnd : 115 ≠ 58 := by decide
section
variable {g4 g5 : Nat} {wS wr w1 : World} {ve vr vt : Value} {el : List Int} {rs : List Rnd} {ts : List Tie}
theorem ROI.later (h : ROI g4 g5 wS wr ve vr vt el rs ts) (hb : Below wr.heap.size wr w1) : ROI g4 g5 wS w1 ve vr vt el rs ts := by
 have hu := Rz.up (g4 := g4) (g5 := g5) (ve := vr) (vt := vt) (ve' := vr) (vt' := vt) hb.size (.inl rfl) (.inl rfl)
 exact ⟨qax hb h.bx,Own.tmono famRnd hu (Own.below (famRnd.stable _) h.rd hb),Own.tmono famTie hu (Own.below (famTie.stable _) h.ti hb),(h.el.same (.of_below hb)).mono hu,h.below.trans (hb.mono (Nat.le_of_lt (qa0 h.bx)))⟩
theorem ROI.round (h : ROI g4 g5 wS wr ve vr vt el rs ts) {vr2 : Value} {rs2 : List Rnd} (h2 : Own (g5 + 1) 58 6 (dRnd (Rz g4 g5 wr vr vt)) w1 vr2 rs2) (hB : ∀ B W0,B ≤ g5 + 1 → Below B W0 wr → Below B W0 w1) (hg : wr.grownBy w1 vr.ownBlock)
  (hl : vr2.ownBlock = vr.ownBlock ∨ ∃ b,vr2.ownBlock = some b ∧ wr.heap.size ≤ b) : ROI g4 g5 wS (w1.setCell ⟨g5,1,none⟩ vr2) ve vr2 vt el rs2 ts := by
 have hu := Rz.up (g4 := g4) (g5 := g5) (ve := vr) (vt := vt) (ve' := vr2) (vt' := vt) hg.size hl (.inl rfl)
 have hsz := qai w1 ⟨g5,1,none⟩ vr2
 have hu2 : ∀ b,Rz g4 g5 w1 vr2 vt b → Rz g4 g5 (w1.setCell ⟨g5,1,none⟩ vr2) vr2 vt b := fun b hb => by rw [Rz,hsz];exact hb
 have hsm : Same (Rz g4 g5 wr vr vt) wr w1 := .of_grown hg fun b hb => hb.2.2.2.1
 have hs5 : ¬ Rz g4 g5 w1 vr2 vt g5 := fun hb => hb.2.2.1 rfl
 have hne : ∀ k,vt.ownBlock = some k → g5 + 1 ≤ k := fun k hk => (Own.lt h.ti k hk).1
 have h5 : w1.heap[g5]? = some (.cells #[ve,vr,vt] 32 (0,0)) := (hg.block g5 (qa0 h.bx) (fun e => by have := (Own.lt h.rd g5 e.symm).1;omega)).trans h.bx
 refine ⟨by have := qa2 (o := 1) h5 vr2;simpa using this,?_,?_,?_,?_⟩
 ·exact Own.tmono famRnd hu2 (Own.setCell (S := Rz g4 g5 w1 vr2 vt) (famRnd.stable _) (Own.tmono famRnd hu h2) (p := ⟨g5,1,none⟩) (by simp) hs5 vr2)
 ·have k := Own.kept (S := Rz g4 g5 wr vr vt) (famTie.stable _) h.ti hg (qav h.ti h.rd tie_ne_rnd).or hsm
  exact Own.tmono famTie hu2 (Own.setCell (S := Rz g4 g5 w1 vr2 vt) (famTie.stable _) (Own.tmono famTie hu k) (p := ⟨g5,1,none⟩) (by simp) hs5 vr2)
 ·exact ((((h.el.same hsm).mono hu).same (S := Rz g4 g5 w1 vr2 vt) ((Same.refl _ _).setCell (p := ⟨g5,1,none⟩) hs5 vr2))).mono hu2
 ·exact (hB _ _ (by omega) h.below).setCell (p := ⟨g5,1,none⟩) (Nat.le_refl _) _
theorem ROI.tie (h : ROI g4 g5 wS wr ve vr vt el rs ts) {vt2 : Value} {ts2 : List Tie} (h2 : Own (g5 + 1) 115 2 (dTie (Rz g4 g5 wr vr vt)) w1 vt2 ts2) (hB : ∀ B W0,B ≤ g5 + 1 → Below B W0 wr → Below B W0 w1) (hg : wr.grownBy w1 vt.ownBlock)
  (hl : vt2.ownBlock = vt.ownBlock ∨ ∃ b,vt2.ownBlock = some b ∧ wr.heap.size ≤ b) : ROI g4 g5 wS (w1.setCell ⟨g5,2,none⟩ vt2) ve vr vt2 el rs ts2 := by
 have hu := Rz.up (g4 := g4) (g5 := g5) (ve := vr) (vt := vt) (ve' := vr) (vt' := vt2) hg.size (.inl rfl) hl
 have hsz := qai w1 ⟨g5,2,none⟩ vt2
 have hu2 : ∀ b,Rz g4 g5 w1 vr vt2 b → Rz g4 g5 (w1.setCell ⟨g5,2,none⟩ vt2) vr vt2 b := fun b hb => by rw [Rz,hsz];exact hb
 have hsm : Same (Rz g4 g5 wr vr vt) wr w1 := .of_grown hg fun b hb => hb.2.2.2.2
 have hs5 : ¬ Rz g4 g5 w1 vr vt2 g5 := fun hb => hb.2.2.1 rfl
 have h5 : w1.heap[g5]? = some (.cells #[ve,vr,vt] 32 (0,0)) := (hg.block g5 (qa0 h.bx) (fun e => by have := (Own.lt h.ti g5 e.symm).1;omega)).trans h.bx
 refine ⟨by have := qa2 (o := 2) h5 vt2;simpa using this,?_,?_,?_,?_⟩
 ·have k := Own.kept (S := Rz g4 g5 wr vr vt) (famRnd.stable _) h.rd hg (qav h.rd h.ti tie_ne_rnd.symm).or hsm
  exact Own.tmono famRnd hu2 (Own.setCell (S := Rz g4 g5 w1 vr vt2) (famRnd.stable _) (Own.tmono famRnd hu k) (p := ⟨g5,2,none⟩) (by simp) hs5 vt2)
 ·exact Own.tmono famTie hu2 (Own.setCell (S := Rz g4 g5 w1 vr vt2) (famTie.stable _) (Own.tmono famTie hu h2) (p := ⟨g5,2,none⟩) (by simp) hs5 vt2)
 ·exact ((((h.el.same hsm).mono hu).same (S := Rz g4 g5 w1 vr vt2) ((Same.refl _ _).setCell (p := ⟨g5,2,none⟩) hs5 vt2))).mono hu2
 ·exact (hB _ _ (by omega) h.below).setCell (p := ⟨g5,2,none⟩) (Nat.le_refl _) _
end
section
variable {g4 g5 : Nat} {wS wr w1 : World} {ve vr vt : Value} {el : List Int} {rs : List Rnd} {ts : List Tie}
theorem ROI.low (h : ROI g4 g5 wS wr ve vr vt el rs ts) (h45 : g4 < g5) {b : Nat} (hb : b < g4) : Rz g4 g5 wr vr vt b := by
 have := qa0 h.bx
 exact ⟨by omega,by omega,by omega,fun e => by have := (Own.lt h.rd b e.symm).1;omega,fun e => by have := (Own.lt h.ti b e.symm).1;omega⟩
theorem ROI.high (h : ROI g4 g5 wS wr ve vr vt el rs ts) (h45 : g4 < g5) {b : Nat} (hb : wr.heap.size ≤ b) (hb1 : b < w1.heap.size) : Rz g4 g5 w1 vr vt b := by
 have := qa0 h.bx
 exact ⟨hb1,by omega,by omega,fun e => by have := (Own.lt h.rd b e.symm).2;omega,fun e => by have := (Own.lt h.ti b e.symm).2;omega⟩
theorem ROI.fresh (h : ROI g4 g5 wS wr ve vr vt el rs ts) (h45 : g4 < g5) {u : Value} {l : List Int} (hu : Own wr.heap.size 3 1 (dInt .i64) w1 u l) (hl : l.length ≤ 1000000) : RInts (Rz g4 g5 w1 vr vt) w1 u l :=
 RSl.mono (fun _ _ _ h => h) (fun b hb => h.high h45 hb.1 hb.2) (RSl.cut (by omega) (fun _ _ h => h) (Own.rsl hu (by omega)))
theorem ROI.grown (h : ROI g4 g5 wS wr ve vr vt el rs ts) {row : Option Nat} (hg : wr.grownBy w1 row) (hr : ∀ k,row = some k → g5 + 1 ≤ k) : w1.heap[g5]? = some (.cells #[ve,vr,vt] 32 (0,0)) :=
 (hg.block g5 (qa0 h.bx) (fun e => by have := hr g5 e.symm;omega)).trans h.bx
end
theorem dRt.cut {S : Nat → Prop} {w : World} {cs : List Value} {x : Rt} (h : dRt S w cs x) : dRt (Cut S w.heap.size) w cs x := let ⟨a,b,h1,h2,h3⟩ := h;⟨a,b,h1,h2.cut,h3.cut⟩
theorem RRts.cut {S : Nat → Prop} {w : World} {v : Value} {xs : List Rt} (h : RRts S w v xs) : RRts (Cut S w.heap.size) w v xs := RSl.cut (by omega) (fun _ _ h => h.cut) h
theorem dTie.cut {S : Nat → Prop} {w : World} {cs : List Value} {x : Tie} (h : dTie S w cs x) : dTie (Cut S w.heap.size) w cs x := let ⟨v,h1,h2,h3⟩ := h;⟨v,h1,h2,h3.cut⟩
theorem RTies.cut {S : Nat → Prop} {w : World} {v : Value} {xs : List Tie} (h : RTies S w v xs) : RTies (Cut S w.heap.size) w v xs := RSl.cut (by omega) (fun _ _ h => h.cut) h
theorem dRnd.cut {S : Nat → Prop} {w : World} {cs : List Value} {x : Rnd} (h : dRnd S w cs x) : dRnd (Cut S w.heap.size) w cs x := let ⟨v0,vn,vd,v1,v2,h1,h2,h3,h4,h5,h6⟩ := h;⟨v0,vn,vd,v1,v2,h1,h2.cut,h3.cut,h4.cut,h5.cut,h6.cut⟩
theorem RRnds.cut {S : Nat → Prop} {w : World} {v : Value} {xs : List Rnd} (h : RRnds S w v xs) : RRnds (Cut S w.heap.size) w v xs := RSl.cut (by omega) (fun _ _ h => h.cut) h
theorem VOutc.cut {S : Nat → Prop} {w : World} {v : Value} {o : Outc} (h : VOutc S w v o) : VOutc (Cut S w.heap.size) w v o := let ⟨v1,v2,v3,h1,h2,h3,h4⟩ := h;⟨v1,v2,v3,h1,h2.cut,h3.cut,h4.cut⟩
section
variable {P : Program} (w : World)
end
end

section
open Go

theorem la (a : Act) (t : Nat) (v : Value) : a.put (some t) v = { a with tmps := a.tmps.setIfInBounds t v } := rfl
theorem lb {α : Type} (l : List α) (i : Nat) (v : α) : l.toArray.setIfInBounds i v = (l.set i v).toArray := List.setIfInBounds_toArray ..
theorem lc {α : Type} (x y : α) (l : List α) : (x :: l).set 0 y = y :: l := rfl
theorem ld {α : Type} (x y : α) (l : List α) (n : Nat) : (x :: l).set (n + 1) y = x :: l.set n y := rfl
theorem lf {α : Type} (l : List α) (i : Nat) (h : i < l.toArray.size) : l.toArray[i] = l[i]'h := rfl
theorem lg {α : Type} (x : α) (l : List α) (h : 0 < (x :: l).length) : (x :: l)[0]'h = x := rfl
theorem lh {α : Type} (x : α) (l : List α) (n : Nat) (h : n + 1 < (x :: l).length) : (x :: l)[n + 1]'h = l[n]'(Nat.lt_of_succ_lt_succ h) := rfl
section
variable {P : Program} {md : Region.Mode} {ops : Array Oper} {Q : Exit → Act → World → Prop} {S : World → Prop} {L : List Nat}
theorem tk {fuel : Nat} {listed : Array Bool} {a : Act} {w : World} {oi : Oper} (i : Nat) (v : Value) (hi : ops[i]? = some oi) (hS : S w)
  (hy : ∀ w,S w → (execOp a.eval oi).run P w = .ok (.value v) w) (h : wpAnyL P md ops Q S L fuel (listed.setIfInBounds i true) (a.put oi.dst v) w)
  (hs : Region.noSelect ops = true := by kernel_rfl) (hf : Region.free md ops listed i = true := by kernel_rfl) (hr : (Region.ready md ops listed).contains i = true := by kernel_rfl) (hL : waits md ops L i = true := by kernel_rfl)
  (hQ : ∀ c a w,Q (.panic c) (a.put oi.dst v) w → Q (.panic c) a w := by exact fun _ _ _ h => h) (hw : Region.wanted oi (yielded ops a.tmps) = true := by kernel_rfl) : wpAnyL P md ops Q S L (fuel + 1) listed a w :=
 wpAnyL_take hi hs hf hr hL hQ (Or.inl ⟨hw,hy⟩) hS h
end
end
end Go.Proofs.YthcbkhfmdginiaaGreat
