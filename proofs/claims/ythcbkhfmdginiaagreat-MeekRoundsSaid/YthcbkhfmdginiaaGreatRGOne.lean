/- Texts of one claim,put together: Rt,OneP,OneQ,OneR,OneS,Out,AppN. -/
import Derived.Test.YthcbkhfmdginiaaGreatRGProf
import Derived.Test.YthcbkhfmdginiaaGreatRGNat
import Derived.Test.YthcbkhfmdginiaaGreatRGNatR
import Derived.Test.YthcbkhfmdginiaaGreatRGFoot
import Derived.Test.YthcbkhfmdginiaaGreatRGPut

namespace Go.Proofs.YthcbkhfmdginiaaGreat
section

structure Rt where
 neg : Bool
 num : List Int
 den : List Int
def whole (n : Int) : Rt := ⟨decide (n < 0),Limb.lim n.natAbs,[1]⟩
structure Tie where
 among : List Int
 chosen : Int
structure Rnd where
 had : List Rt
 lost : Rt
 elected : List Int
 out : List Int
structure Outc where
 elected : List Int
 rounds : List Rnd
 ties : List Tie
def noO : Outc := ⟨[],[],[]⟩
end

section

def rngI (n : Nat) : List Int := (List.range n).map Int.ofNat
theorem qar (n : Nat) : (rngI n).length = n := by simp [rngI]
theorem rngI_get {n k : Nat} (h : k < (rngI n).length) : (rngI n)[k] = (k : Int) := by simp [rngI]
theorem mem_rngI {n : Nat} {x : Int} : x ∈ rngI n ↔ 0 ≤ x ∧ x < n := by
 simp only [rngI,List.mem_map,List.mem_range]
 constructor
 ·rintro ⟨k,hk,rfl⟩;simp only [Int.ofNat_eq_natCast];omega
 ·rintro ⟨h1,h2⟩;exact ⟨x.toNat,by omega,by simp only [Int.ofNat_eq_natCast];omega⟩
theorem rngI_succ (n : Nat) : rngI (n + 1) = rngI n ++ [(n : Int)] := by simp [rngI,List.range_succ]
theorem rngI_nodup (n : Nat) : (rngI n).Nodup := by
 rw [rngI]
 exact (List.pairwise_map).2 (List.nodup_range.imp fun h => by simp only [Int.ofNat_eq_natCast];omega)
def gI (l : List Int) (x : Int) : Int := l.getD x.toNat 0
theorem gI_at {l : List Int} {k : Nat} (h : k < l.length) : gI l (k : Int) = l[k] := by simp [gI,h]

def lotB (lot : List Int) (c : Int) : Bool := decide ((lot.length : Int) = c) && (List.range lot.length).all fun i => lot.contains (i : Int)
structure LotOf (lot : List Int) (n : Nat) : Prop where
 len : lot.length = n
 all : ∀ x : Int,x ∈ lot ↔ 0 ≤ x ∧ x < n
 nodup : lot.Nodup
theorem perm_of_sub : ∀ {a b : List Int},a.Nodup → (∀ x ∈ a,x ∈ b) → b.length ≤ a.length → List.Perm a b
 | [],b,_,_,h => by
  rw [List.eq_nil_of_length_eq_zero (Nat.le_zero.1 h)]
 | x :: a,b,hn,hs,hl => by
  have hx := hs x (by simp)
  obtain ⟨h1,h2⟩ := List.nodup_cons.1 hn
  have hb := List.perm_cons_erase hx
  refine (List.Perm.cons x (perm_of_sub h2 (fun y hy => ?_) ?_)).trans hb.symm
  ·exact (List.mem_erase_of_ne (by rintro rfl;exact h1 hy)).2 (hs y (List.mem_cons_of_mem _ hy))
  ·rw [List.length_erase_of_mem hx];simp at hl;omega
theorem sub_perm (n : Nat) (l : List Int) (h1 : l.length = n) (h2 : ∀ x ∈ rngI n,x ∈ l) : List.Perm (rngI n) l :=
 perm_of_sub (rngI_nodup n) h2 (by rw [qar,h1];exact Nat.le_refl _)
theorem lotB_iff {lot : List Int} {c : Int} : lotB lot c = true ↔ 0 ≤ c ∧ LotOf lot c.toNat := by
 simp only [lotB,Bool.and_eq_true,decide_eq_true_eq,List.all_eq_true,List.mem_range,List.contains_iff_mem]
 constructor
 ·rintro ⟨h1, h2⟩
  have hp : List.Perm (rngI lot.length) lot := sub_perm _ _ rfl fun x hx => by
   obtain ⟨h3,h4⟩ := mem_rngI.1 hx
   have := h2 x.toNat (by omega)
   rwa [show ((x.toNat : Nat) : Int) = x by omega] at this
  refine ⟨by omega,by omega,fun x => ?_,hp.nodup_iff.1 (rngI_nodup _)⟩
  rw [← hp.mem_iff,mem_rngI]
  omega
 ·rintro ⟨h0, h1, h2, -⟩
  exact ⟨by omega,fun i hi => (h2 _).2 (by omega)⟩

def bestL (f : Int → Int) (left : List Int) : List Int := left.filter fun x => left.all fun y => decide (f y ≤ f x)
def firstL (lot among : List Int) : Int := (lot.find? fun x => among.contains x).getD 0
theorem qak {f : Int → Int} {left : List Int} {x : Int} : x ∈ bestL f left ↔ x ∈ left ∧ ∀ y ∈ left,f y ≤ f x := by
 simp [bestL,List.mem_filter]
theorem exists_most (f : Int → Int) : ∀ (l : List Int),l ≠ [] → ∃ x ∈ l,∀ y ∈ l,f y ≤ f x
 | [],h => absurd rfl h
 | [a],_ => ⟨a,by simp,by simp⟩
 | a :: b :: l, _ => by
  obtain ⟨x,hx,hm⟩ := exists_most f (b :: l) (by simp)
  by_cases h : f x ≤ f a
  ·refine ⟨a, by simp, fun y hy => ?_⟩
   rcases List.mem_cons.1 hy with rfl | hy
   ·exact Int.le_refl _
   ·exact Int.le_trans (hm y hy) h
  ·refine ⟨x, List.mem_cons_of_mem _ hx, fun y hy => ?_⟩
   rcases List.mem_cons.1 hy with rfl | hy
   ·omega
   ·exact hm y hy
theorem bestL_ne {f : Int → Int} {left : List Int} (h : left ≠ []) : bestL f left ≠ [] := by
 obtain ⟨x,hx,hm⟩ := exists_most f left h
 intro he
 have : x ∈ bestL f left := qak.2 ⟨hx,hm⟩
 rw [he] at this
 cases this
theorem qaw {lot among : List Int} (h : ∃ x ∈ lot,x ∈ among) : firstL lot among ∈ among ∧ firstL lot among ∈ lot := by
 cases hf : lot.find? fun x => among.contains x with
 | none =>
  obtain ⟨x,h1,h2⟩ := h
  have := List.find?_eq_none.1 hf x h1
  simp [h2] at this
 | some y =>
  rw [firstL,hf]
  have h1 := List.find?_some hf
  exact ⟨by simpa using h1,List.mem_of_find?_eq_some hf⟩
structure St where
 left : List Int
 elected : List Int
 ties : List Tie
def tieL (among : List Int) (x : Int) : List Tie := if 1 < among.length then [⟨among,x⟩] else []
def seatSt (had lot : List Int) : Nat → St
 | 0 => ⟨rngI had.length,[],[]⟩
 | i + 1 =>
  let s := seatSt had lot i
  let am := bestL (gI had) s.left
  let x := firstL lot am
  ⟨s.left.filter (fun y => !(y == x)),s.elected ++ [x],s.ties ++ tieL am x⟩
def kindL (rule : Nat) : Int := match rule with | 0 => 2 | 1 => 2 | 2 => 3 | _ => 1
def countI (p : Prof) (kind seats most : Int) (lot : List Int) : Int :=
 if chkP p ≠ 0 ∨ p.kind ≠ kind then 8 else if seats < 1 ∨ most < seats ∨ 10 < seats ∨ lotB lot p.cands = false then 2 else 0
def singleI (rule : Nat) (p : Prof) (seats : Int) (lot : List Int) : Int := countI p (kindL rule) seats p.cands lot
end

section

theorem bestL_eq {f : Int → Int} {l : List Int} {M : Int} (h1 : ∃ y ∈ l,f y = M) (h2 : ∀ y ∈ l,f y ≤ M) : bestL f l = l.filter fun x => decide (f x = M) := by
 rw [bestL]
 apply List.filter_congr
 intro x hx
 rw [Bool.eq_iff_iff,List.all_eq_true,decide_eq_true_eq]
 obtain ⟨y,hy,hM⟩ := h1
 constructor
 ·intro h
  have := h y hy
  simp only [decide_eq_true_eq] at this
  have := h2 x hx
  omega
 ·intro h z hz
  have := h2 z hz
  simp only [decide_eq_true_eq]
  omega
theorem bestL_up {f : Int → Int} {l : List Int} {x M : Int} (h2 : ∀ y ∈ l,f y ≤ M) (h : M < f x ∨ l = []) : bestL f (l ++ [x]) = [x] := by
 have h3 : ∀ y ∈ l,f y < f x := fun y hy => by
  rcases h with h | rfl
  ·have := h2 y hy;omega
  ·cases hy
 rw [bestL_eq (M := f x) ⟨x,by simp,rfl⟩ (fun y hy => by
  rcases List.mem_append.1 hy with hy | hy
  ·have := h3 y hy;omega
  ·rw [List.mem_singleton.1 hy];exact Int.le_refl _),List.filter_append]
 rw [show l.filter (fun z => decide (f z = f x)) = [] from List.filter_eq_nil_iff.2 fun y hy => by have := h3 y hy;simp;omega]
 simp
theorem bestL_same {f : Int → Int} {l : List Int} {x M : Int} (h1 : ∃ y ∈ l,f y = M) (h2 : ∀ y ∈ l,f y ≤ M) (h : f x = M) : bestL f (l ++ [x]) = bestL f l ++ [x] := by
 obtain ⟨y,hy,hM⟩ := h1
 rw [bestL_eq (M := M) ⟨y,by simp [hy],hM⟩ (fun z hz => by
  rcases List.mem_append.1 hz with hz | hz
  ·exact h2 z hz
  ·rw [List.mem_singleton.1 hz,h];exact Int.le_refl _),List.filter_append,bestL_eq ⟨y,hy,hM⟩ h2]
 simp [h]
theorem bestL_down {f : Int → Int} {l : List Int} {x M : Int} (h1 : ∃ y ∈ l,f y = M) (h2 : ∀ y ∈ l,f y ≤ M) (h : f x < M) : bestL f (l ++ [x]) = bestL f l := by
 obtain ⟨y,hy,hM⟩ := h1
 rw [bestL_eq (M := M) ⟨y,by simp [hy],hM⟩ (fun z hz => by
  rcases List.mem_append.1 hz with hz | hz
  ·exact h2 z hz
  ·rw [List.mem_singleton.1 hz];omega),List.filter_append,bestL_eq ⟨y,hy,hM⟩ h2]
 rw [show [x].filter (fun z => decide (f z = M)) = [] from List.filter_eq_nil_iff.2 fun z hz => by rw [List.mem_singleton.1 hz];simp;omega]
 simp
theorem bestL_top {f : Int → Int} {l : List Int} (h : l ≠ []) : ∃ M,(∃ y ∈ l,f y = M) ∧ (∀ y ∈ l,f y ≤ M) ∧ ∀ z ∈ bestL f l,f z = M := by
 obtain ⟨x,hx,hm⟩ := exists_most f l h
 refine ⟨f x,⟨x,hx,rfl⟩,hm,fun z hz => ?_⟩
 obtain ⟨h1,h2⟩ := qak.1 hz
 have := hm z h1
 have := h2 x hx
 omega

theorem firstL_min {lot among : List Int} {m : Int} (hm : m ∈ among) (hl : m ∈ lot) (h : ∀ y ∈ among,lot.idxOf m ≤ lot.idxOf y) : firstL lot among = m := by
 obtain ⟨h1,h2⟩ := qaw (lot := lot) (among := among) ⟨m,hl,hm⟩
 induction lot with
 | nil => cases hl
 | cons a lot ih =>
  by_cases ha : a ∈ among
  ·have e1 : firstL (a :: lot) among = a := by simp [firstL, ha]
   have := h a ha
   rw [List.idxOf_cons_self] at this
   by_cases hma : a = m
   ·rw [e1,hma]
   ·rw [List.idxOf_cons, show (a == m) = false by simpa using hma] at this
    simp at this
  ·have e1 : firstL (a :: lot) among = firstL lot among := by simp [firstL, ha]
   have hne : m ≠ a := fun e => ha (e ▸ hm)
   have hl' : m ∈ lot := by rcases List.mem_cons.1 hl with e | e;exact absurd e hne;exact e
   rw [e1]
   refine ih hl' (fun y hy => ?_) ?_ ?_
   ·have hya : y ≠ a := fun e => ha (e ▸ hy)
    have := h y hy
    rw [List.idxOf_cons,List.idxOf_cons,show (a == m) = false by simpa using hne.symm,show (a == y) = false by simpa using hya.symm] at this
    simpa using this
   ·exact (qaw ⟨m,hl',hm⟩).1
   ·exact (qaw ⟨m,hl',hm⟩).2
theorem qb2 {x : Int} : ∀ {l : List Int},l.Nodup → x ∈ l → (l.filter fun y => !(y == x)).length + 1 = l.length
 | [],_,h => absurd h List.not_mem_nil
 | a :: l, hn, h => by
  obtain ⟨h1,h2⟩ := List.nodup_cons.1 hn
  by_cases ha : a = x
  ·subst ha
   rw [List.filter_cons_of_neg (by simp),List.filter_eq_self.2 (fun y hy => by
    have : y ≠ a := fun e => h1 (e ▸ hy)
    simpa using this)]
   rfl
  ·rw [List.filter_cons_of_pos (by simpa using ha)]
   have hx : x ∈ l := by rcases List.mem_cons.1 h with e | e;exact absurd e.symm ha;exact e
   have := qb2 h2 hx
   simp only [List.length_cons]
   omega
end

section

def sortI (l : List Int) : List Int := l.mergeSort fun x y => decide (x ≤ y)
theorem sortI_perm (l : List Int) : List.Perm (sortI l) l := List.mergeSort_perm _ _
theorem qb7 (l : List Int) : (sortI l).length = l.length := (sortI_perm l).length_eq
theorem sortI_sorted (l : List Int) : (sortI l).Pairwise (fun a b => a ≤ b) := by
 have := List.pairwise_mergeSort (le := fun x y : Int => decide (x ≤ y)) (fun a b c h1 h2 => by simp at *;omega) (fun a b => by simp;omega) l
 exact this.imp fun h => by simpa using h
theorem sorted_unique {a b : List Int} (h1 : a.Pairwise (fun a b => a ≤ b)) (h2 : b.Pairwise (fun a b => a ≤ b)) (h : List.Perm a b) : a = b :=
 h.eq_of_pairwise (fun _ _ _ _ h1 h2 => Int.le_antisymm h1 h2) h1 h2
theorem rngI_sorted (n : Nat) : (rngI n).Pairwise (fun a b => a ≤ b) := by
 rw [rngI]
 exact List.Pairwise.map _ (fun a b h => by simp only [Int.ofNat_eq_natCast];omega) List.pairwise_lt_range
theorem sortI_self {l : List Int} (h : l.Pairwise (fun a b => a ≤ b)) : sortI l = l := sorted_unique (sortI_sorted l) h (sortI_perm l)
theorem lotB_sort (lot : List Int) (c : Int) : lotB lot c = (decide (∀ i (h : i < (sortI lot).length),(sortI lot)[i] = (i : Int)) && decide ((lot.length : Int) = c)) := by
 rw [Bool.eq_iff_iff,lotB_iff]
 simp only [Bool.and_eq_true,decide_eq_true_eq]
 constructor
 ·rintro ⟨h0, h1, h2, h3⟩
  have hp : List.Perm lot (rngI c.toNat) := (sub_perm _ _ h1 fun x hx => (h2 x).2 (mem_rngI.1 hx)).symm
  have he : sortI lot = rngI c.toNat := sorted_unique (sortI_sorted _) (rngI_sorted _) ((sortI_perm lot).trans hp)
  refine ⟨fun i h => ?_,by omega⟩
  simp only [he,rngI_get]
 ·rintro ⟨h1, h2⟩
  have he : sortI lot = rngI lot.length := List.ext_getElem (by rw [qb7,qar]) fun i h3 h4 => by rw [h1 i h3,rngI_get]
  have hp : List.Perm lot (rngI lot.length) := (he ▸ sortI_perm lot).symm
  refine ⟨by omega,by omega,fun x => ?_,hp.nodup_iff.2 (rngI_nodup _)⟩
  rw [hp.mem_iff,mem_rngI]
  omega

end

section

def fl (n : Nat) (f : Nat → Int) : List Int := (List.range n).map f
theorem qae (n : Nat) (f : Nat → Int) : (fl n f).length = n := by simp [fl]
theorem fl_get {n : Nat} {f : Nat → Int} {x : Nat} (h : x < (fl n f).length) : (fl n f)[x] = f x := by simp [fl]
theorem fl_set {n : Nat} {f : Nat → Int} {x : Nat} {y : Int} : (fl n f).set x y = fl n fun z => if z = x then y else f z := by
 apply List.ext_getElem (by simp [qae])
 intro i h1 h2
 rw [fl_get,List.getElem_set]
 by_cases h : x = i
 ·rw [if_pos h,if_pos h.symm]
 ·rw [if_neg h,if_neg (Ne.symm h),fl_get]
theorem fl_congr {n : Nat} {f g : Nat → Int} (h : ∀ x,x < n → f x = g x) : fl n f = fl n g := by
 apply List.ext_getElem (by simp [qae])
 intro i h1 h2
 rw [fl_get,fl_get]
 exact h i (by simpa [qae] using h1)
theorem fl_zero (n : Nat) : fl n (fun _ => 0) = List.replicate n 0 := by
 apply List.ext_getElem (by simp [qae])
 intro i h1 h2
 rw [fl_get];simp
structure Counted (rule : Nat) (p : Prof) (seats : Int) (lot : List Int) : Prop where
 kind : p.kind = kindL rule
 cands : 1 ≤ p.cands ∧ p.cands ≤ 10
 seats : 1 ≤ seats ∧ seats ≤ p.cands
 lot : LotOf lot p.cands.toNat
 many : ∀ r ∈ p.rows,0 < r.many
 fine : ∀ r ∈ p.rows,fineB ⟨p.kind,r.marks⟩ p.cands = true
 rows : p.rows.length ≤ 64
 sum : sumR p.rows ≤ 1000000
theorem counted {rule : Nat} {p : Prof} {seats : Int} {lot : List Int} (h : singleI rule p seats lot = 0) : Counted rule p seats lot := by
 unfold singleI countI at h
 split at h
 ·omega
 ·rename_i h1
  simp only [not_or,Decidable.not_not] at h1
  obtain ⟨hc,hk⟩ := h1
  split at h
  ·omega
  ·rename_i h2
   simp only [not_or,Int.not_lt,Bool.not_eq_false] at h2
   obtain ⟨s1,s2,s3,hl⟩ := h2
   have hl2 := lotB_iff.1 hl
   unfold chkP at hc
   split at hc
   ·omega
   ·rename_i h64
    split at hc
    ·rename_i hf
     split at hc
     ·omega
     ·rename_i hs
      simp only [Bool.and_eq_true] at hf
      obtain ⟨f1,f2⟩ := hf
      have hn := newOk_iff.1 f2
      obtain ⟨g1,g2⟩ := fineP_iff.1 f1
      refine ⟨hk,by omega,by omega,hl2.2,fun r hr => g1.many r hr,fun r hr => ?_,by omega,by omega⟩
      have := g2 r hr
      unfold checkB at this
      split at this
      ·split at this
       ·assumption
       ·omega
      ·omega
    ·omega
theorem sumR_sub : ∀ (l : List Row) (g : Row → Bool),(∀ r ∈ l,0 ≤ r.many) → 0 ≤ sumR (l.filter g) ∧ sumR (l.filter g) ≤ sumR l
 | [],_,_ => by simp [sumR]
 | r :: l,g,h => by
  obtain ⟨h1,h2⟩ := sumR_sub l g fun s hs => h s (List.mem_cons_of_mem _ hs)
  have := h r (by simp)
  have e : ∀ m : List Row,sumR (r :: m) = r.many + sumR m := fun m => by simp [sumR]
  rw [List.filter_cons]
  split
  ·rw [e,e];omega
  ·rw [e];omega
theorem sumR_takeLe {l : List Row} (h : ∀ r ∈ l,0 ≤ r.many) (k : Nat) : 0 ≤ sumR (l.take k) ∧ sumR (l.take k) ≤ sumR l := by
 have e : sumR l = sumR (l.take k) + sumR (l.drop k) := by rw [sumR,sumR,sumR,← List.sum_append,← List.map_append,List.take_append_drop]
 have hn : ∀ m : List Row,(∀ r ∈ m,0 ≤ r.many) → 0 ≤ sumR m := fun m hm => by
  have := (sumR_sub m (fun _ => true) hm).1
  rwa [List.filter_eq_self.2 (fun _ _ => rfl)] at this
 have h1 := hn (l.take k) fun r hr => h r (List.mem_of_mem_take hr)
 have h2 := hn (l.drop k) fun r hr => h r (List.mem_of_mem_drop hr)
 omega
end

section
open Go Go.RowKit

theorem RSl.atN {α : Type} {S : Nat → Prop} {n : Nat} {dec : World → List Value → α → Prop} {w : World} {a : Option Addr} {m cap : Nat} {xs : List α} (h : RSl S n dec w (.slice a m cap) xs) (hn : 0 < n) (k : Nat) (hk : k < xs.length) :
  ∃ b off cs,a = some ⟨b,off,none⟩ ∧ S b ∧ b < w.heap.size ∧ cs.length = n ∧ (∀ j,j < n → ∃ c,cs[j]? = some c ∧ w.cell? ⟨b,off + k * n + j,none⟩ = some c) ∧ dec w cs xs[k] := by
 obtain ⟨a',cap',cells,hv,_,_,hD,h4⟩ := h
 simp only [Value.slice.injEq] at hv
 obtain ⟨rfl,rfl,rfl⟩ := hv
 rcases h4 with h4 | ⟨b,off,rfl,hS,hc⟩
 ·subst h4;simp at hk
 have hl : (k + 1) * n ≤ cells.length := by rw [hD.1];exact Nat.mul_le_mul_right _ hk
 rw [Nat.add_mul,Nat.one_mul] at hl
 have hget : ∀ j,j < n → (((cells.drop (k * n)).take n)[j]? = cells[k * n + j]?) := fun j hj => by rw [List.getElem?_take_of_lt hj,List.getElem?_drop]
 have hcell : ∀ j,j < n → ∃ c,cells[k * n + j]? = some c ∧ w.cell? ⟨b,off + k * n + j,none⟩ = some c := fun j hj => by
  have h1 : k * n + j < cells.length := by omega
  refine ⟨cells[k * n + j],List.getElem?_eq_getElem h1,?_⟩
  rw [Nat.add_assoc]
  exact hc _ _ (List.getElem?_eq_getElem h1)
 refine ⟨b,off,_,rfl,hS,?_,by simp;omega,fun j hj => ?_,hD.2 k hk⟩
 ·obtain ⟨c, _, h2⟩ := hcell 0 hn
  exact qag h2
 ·rw [hget j hj];exact hcell j hj
theorem RSl.at3 {α : Type} {S : Nat → Prop} {dec : World → List Value → α → Prop} {w : World} {a : Option Addr} {n cap : Nat} {xs : List α} (h : RSl S 3 dec w (.slice a n cap) xs) (k : Nat) (hk : k < xs.length) :
  ∃ b off c d e,a = some ⟨b,off,none⟩ ∧ S b ∧ b < w.heap.size ∧ w.cell? ⟨b,off + k * 3,none⟩ = some c ∧ w.cell? ⟨b,off + k * 3 + 1,none⟩ = some d ∧ w.cell? ⟨b,off + k * 3 + 2,none⟩ = some e ∧ dec w [c,d,e] xs[k] := by
 obtain ⟨b,off,cs,h1,h2,h3,h4,h5,h6⟩ := RSl.atN h (by omega) k hk
 match cs,h4 with
 | [c,d,e],_ =>
  obtain ⟨c0,e0,f0⟩ := h5 0 (by omega)
  obtain ⟨c1,e1,f1⟩ := h5 1 (by omega)
  obtain ⟨c2,e2,f2⟩ := h5 2 (by omega)
  simp only [List.getElem?_cons_zero,List.getElem?_cons_succ,Option.some.injEq] at e0 e1 e2
  subst e0 e1 e2
  exact ⟨b,off,_,_,_,h1,h2,h3,f0,f1,f2,h6⟩
theorem RSl.at6 {α : Type} {S : Nat → Prop} {dec : World → List Value → α → Prop} {w : World} {a : Option Addr} {n cap : Nat} {xs : List α} (h : RSl S 6 dec w (.slice a n cap) xs) (k : Nat) (hk : k < xs.length) :
  ∃ b off c0 c1 c2 c3 c4 c5,a = some ⟨b,off,none⟩ ∧ S b ∧ b < w.heap.size ∧ w.cell? ⟨b,off + k * 6,none⟩ = some c0 ∧ w.cell? ⟨b,off + k * 6 + 1,none⟩ = some c1 ∧ w.cell? ⟨b,off + k * 6 + 2,none⟩ = some c2 ∧
   w.cell? ⟨b,off + k * 6 + 3,none⟩ = some c3 ∧ w.cell? ⟨b,off + k * 6 + 4,none⟩ = some c4 ∧ w.cell? ⟨b,off + k * 6 + 5,none⟩ = some c5 ∧ dec w [c0,c1,c2,c3,c4,c5] xs[k] := by
 obtain ⟨b,off,cs,h1,h2,h3,h4,h5,h6⟩ := RSl.atN h (by omega) k hk
 match cs,h4 with
 | [a0,a1,a2,a3,a4,a5],_ =>
  obtain ⟨c0,e0,f0⟩ := h5 0 (by omega)
  obtain ⟨c1,e1,f1⟩ := h5 1 (by omega)
  obtain ⟨c2,e2,f2⟩ := h5 2 (by omega)
  obtain ⟨c3,e3,f3⟩ := h5 3 (by omega)
  obtain ⟨c4,e4,f4⟩ := h5 4 (by omega)
  obtain ⟨c5,e5,f5⟩ := h5 5 (by omega)
  simp only [List.getElem?_cons_zero,List.getElem?_cons_succ,Option.some.injEq] at e0 e1 e2 e3 e4 e5
  subst e0 e1 e2 e3 e4 e5
  exact ⟨b,off,_,_,_,_,_,_,h1,h2,h3,f0,f1,f2,f3,f4,f5,h6⟩

def dRt (S : Nat → Prop) (w : World) (cs : List Value) (x : Rt) : Prop := ∃ vn vd,cs = [.bool x.neg,vn,vd] ∧ RU S w vn x.num ∧ RU S w vd x.den
def RRts (S : Nat → Prop) (w : World) (v : Value) (xs : List Rt) : Prop := RSl S 3 (dRt S) w v xs
def dTie (S : Nat → Prop) (w : World) (cs : List Value) (x : Tie) : Prop := ∃ v,cs = [v,.int .i64 x.chosen] ∧ (Lit.int .i64 x.chosen).wf = true ∧ RInts S w v x.among
def RTies (S : Nat → Prop) (w : World) (v : Value) (xs : List Tie) : Prop := RSl S 2 (dTie S) w v xs
def dRnd (S : Nat → Prop) (w : World) (cs : List Value) (x : Rnd) : Prop :=
 ∃ v0 vn vd v1 v2,cs = [v0,.bool x.lost.neg,vn,vd,v1,v2] ∧ RRts S w v0 x.had ∧ RU S w vn x.lost.num ∧ RU S w vd x.lost.den ∧ RInts S w v1 x.elected ∧ RInts S w v2 x.out
def RRnds (S : Nat → Prop) (w : World) (v : Value) (xs : List Rnd) : Prop := RSl S 6 (dRnd S) w v xs
def VRt (S : Nat → Prop) (w : World) (v : Value) (x : Rt) : Prop := ∃ vn vd,v = .agg #[.bool x.neg,vn,vd] ∧ RU S w vn x.num ∧ RU S w vd x.den
def VOutc (S : Nat → Prop) (w : World) (v : Value) (o : Outc) : Prop := ∃ v1 v2 v3,v = .agg #[v1,v2,v3] ∧ RInts S w v1 o.elected ∧ RRnds S w v2 o.rounds ∧ RTies S w v3 o.ties

theorem RU.cut {S : Nat → Prop} {w : World} {v : Value} {xs : List Int} (h : RU S w v xs) : RU (Cut S w.heap.size) w v xs := RSl.cut (by omega) (fun _ _ h => h) h
theorem dRt.stable (S : Nat → Prop) : Stable S (dRt S) := fun _ _ _ _ hs ⟨a,b,h1,h2,h3⟩ => ⟨a,b,h1,h2.same hs,h3.same hs⟩
theorem RRts.same {S : Nat → Prop} {w w' : World} {v : Value} {xs : List Rt} (hs : Same S w w') (h : RRts S w v xs) : RRts S w' v xs := RSl.same (dRt.stable S) hs h
theorem dTie.stable (S : Nat → Prop) : Stable S (dTie S) := fun _ _ _ _ hs ⟨v,h1,h2,h3⟩ => ⟨v,h1,h2,h3.same hs⟩
theorem RTies.same {S : Nat → Prop} {w w' : World} {v : Value} {xs : List Tie} (hs : Same S w w') (h : RTies S w v xs) : RTies S w' v xs := RSl.same (dTie.stable S) hs h
theorem dRnd.stable (S : Nat → Prop) : Stable S (dRnd S) := fun _ _ _ _ hs ⟨v0,vn,vd,v1,v2,h1,h2,h3,h4,h5,h6⟩ => ⟨v0,vn,vd,v1,v2,h1,h2.same hs,h3.same hs,h4.same hs,h5.same hs,h6.same hs⟩
theorem RRnds.same {S : Nat → Prop} {w w' : World} {v : Value} {xs : List Rnd} (hs : Same S w w') (h : RRnds S w v xs) : RRnds S w' v xs := RSl.same (dRnd.stable S) hs h
theorem VRt.same {S : Nat → Prop} {w w' : World} {v : Value} {x : Rt} (hs : Same S w w') (h : VRt S w v x) : VRt S w' v x := let ⟨a,b,h1,h2,h3⟩ := h;⟨a,b,h1,h2.same hs,h3.same hs⟩
theorem VOutc.same {S : Nat → Prop} {w w' : World} {v : Value} {x : Outc} (hs : Same S w w') (h : VOutc S w v x) : VOutc S w' v x := let ⟨a,b,c,h1,h2,h3,h4⟩ := h;⟨a,b,c,h1,h2.same hs,h3.same hs,h4.same hs⟩
theorem dRt.mono {S T : Nat → Prop} {w : World} {cs : List Value} {x : Rt} (hT : ∀ b,S b → T b) (h : dRt S w cs x) : dRt T w cs x := let ⟨a,b,h1,h2,h3⟩ := h;⟨a,b,h1,h2.mono hT,h3.mono hT⟩
theorem RRts.mono {S T : Nat → Prop} {w : World} {v : Value} {xs : List Rt} (hT : ∀ b,S b → T b) (h : RRts S w v xs) : RRts T w v xs := RSl.mono (fun _ _ _ h => h.mono hT) hT h
theorem dTie.mono {S T : Nat → Prop} {w : World} {cs : List Value} {x : Tie} (hT : ∀ b,S b → T b) (h : dTie S w cs x) : dTie T w cs x := let ⟨v,h1,h2,h3⟩ := h;⟨v,h1,h2,h3.mono hT⟩
theorem RTies.mono {S T : Nat → Prop} {w : World} {v : Value} {xs : List Tie} (hT : ∀ b,S b → T b) (h : RTies S w v xs) : RTies T w v xs := RSl.mono (fun _ _ _ h => h.mono hT) hT h
theorem dRnd.mono {S T : Nat → Prop} {w : World} {cs : List Value} {x : Rnd} (hT : ∀ b,S b → T b) (h : dRnd S w cs x) : dRnd T w cs x :=
 let ⟨v0,vn,vd,v1,v2,h1,h2,h3,h4,h5,h6⟩ := h;⟨v0,vn,vd,v1,v2,h1,h2.mono hT,h3.mono hT,h4.mono hT,h5.mono hT,h6.mono hT⟩
theorem RRnds.mono {S T : Nat → Prop} {w : World} {v : Value} {xs : List Rnd} (hT : ∀ b,S b → T b) (h : RRnds S w v xs) : RRnds T w v xs := RSl.mono (fun _ _ _ h => h.mono hT) hT h
theorem VRt.mono {S T : Nat → Prop} {w : World} {v : Value} {x : Rt} (hT : ∀ b,S b → T b) (h : VRt S w v x) : VRt T w v x := let ⟨a,b,h1,h2,h3⟩ := h;⟨a,b,h1,h2.mono hT,h3.mono hT⟩
theorem VOutc.mono {S T : Nat → Prop} {w : World} {v : Value} {x : Outc} (hT : ∀ b,S b → T b) (h : VOutc S w v x) : VOutc T w v x := let ⟨a,b,c,h1,h2,h3,h4⟩ := h;⟨a,b,c,h1,h2.mono hT,h3.mono hT,h4.mono hT⟩
theorem dRt.one (S : Nat → Prop) : OneC (dRt S) := by
 intro w cs x h u hu;obtain ⟨a,b,rfl,h1,h2⟩ := h;simp at hu;rcases hu with rfl | rfl | rfl
 ·rfl
 ·exact qb6 h1
 ·exact qb6 h2
theorem dTie.one (S : Nat → Prop) : OneC (dTie S) := by
 intro w cs x h u hu;obtain ⟨v,rfl,_,hv⟩ := h;simp at hu;rcases hu with rfl | rfl
 ·exact qb6 hv
 ·rfl
theorem dRnd.one (S : Nat → Prop) : OneC (dRnd S) := by
 intro w cs x h u hu;obtain ⟨v0,vn,vd,v1,v2,rfl,h2,h3,h4,h5,h6⟩ := h;simp at hu;rcases hu with rfl | rfl | rfl | rfl | rfl | rfl
 ·exact qb6 h2
 ·rfl
 ·exact qb6 h3
 ·exact qb6 h4
 ·exact qb6 h5
 ·exact qb6 h6
theorem famRt : Fam dRt := ⟨fun h x => dRt.mono h x,dRt.stable,dRt.one⟩
theorem famTie : Fam dTie := ⟨fun h x => dTie.mono h x,dTie.stable,dTie.one⟩
theorem famRnd : Fam dRnd := ⟨fun h x => dRnd.mono h x,dRnd.stable,dRnd.one⟩
theorem Tryz.infoRt : (Tryz.prog.info? 56).map (fun i => (i.zero,i.size,i.bytes)) = some (some (.agg #[.bool false,.slice none 0 0,.slice none 0 0]),3,56) := by kernel_rfl
theorem Tryz.infoTie : (Tryz.prog.info? 115).map (fun i => (i.zero,i.size,i.bytes)) = some (some (.agg #[.slice none 0 0,.int .i64 0]),2,32) := by kernel_rfl
theorem Tryz.infoRnd : (Tryz.prog.info? 58).map (fun i => (i.zero,i.size,i.bytes)) = some (some (.agg #[.slice none 0 0,.bool false,.slice none 0 0,.slice none 0 0,.slice none 0 0,.slice none 0 0]),6,128) := by kernel_rfl
theorem dRt.open {S : Nat → Prop} {w : World} {c d e : Value} {x : Rt} (h : dRt S w [c,d,e] x) : ∃ a1 c1 a2 c2,c = .bool x.neg ∧ d = .slice a1 x.num.length c1 ∧ e = .slice a2 x.den.length c2 ∧ RU S w (.slice a1 x.num.length c1) x.num ∧ RU S w (.slice a2 x.den.length c2) x.den := by
 obtain ⟨vn,vd,h1,h2,h3⟩ := h
 simp only [List.cons.injEq,and_true] at h1
 obtain ⟨rfl,rfl,rfl⟩ := h1
 obtain ⟨a1,c1,rfl,-,-⟩ := RSl.shape h2
 obtain ⟨a2,c2,rfl,-,-⟩ := RSl.shape h3
 exact ⟨a1,c1,a2,c2,rfl,rfl,rfl,h2,h3⟩
theorem dTie.open {S : Nat → Prop} {w : World} {c d : Value} {x : Tie} (h : dTie S w [c,d] x) :
  ∃ a cap,c = .slice a x.among.length cap ∧ d = .int .i64 x.chosen ∧ x.among.length ≤ 140737488355328 ∧ (Lit.int .i64 x.chosen).wf = true ∧ RInts S w (.slice a x.among.length cap) x.among := by
 obtain ⟨v,h1,h2,h3⟩ := h
 simp only [List.cons.injEq,and_true] at h1
 obtain ⟨rfl,rfl⟩ := h1
 obtain ⟨a,cap,hv,_,hl⟩ := RSl.shape h3
 exact ⟨a,cap,hv,rfl,hl,h2,hv ▸ h3⟩
end

section
open Go Go.RowKit

section
variable {P : Program} (w : World)
theorem wpList_appI {ops : Array Oper} {rest : List Oper} {o : Oper} {a : Act} {Q : Exit → Act → World → Prop} {e t : TypeId} (hinfo : (P.info? e).map (fun i => (i.zero,i.size,i.bytes)) = some (some (.int .i64 0),1,8))
  (hgd : o.guard = none) {s x : Operand} (ho : o.op = .call { callee := .builtin .append,args := #[s,x],argTypes := #[t,t] }) (ht : P.underlying t = some (.slice e)) (base : Nat)
  {v : Value} {xs : List Int} {y : Int} (hown : Own base e 1 (dInt .i64) w v xs) (hs : a.eval s = v) (hx : a.eval x = .slice (some ⟨w.heap.size,0,none⟩) 1 1) (hwf : (Lit.int .i64 y).wf = true)
  (hl : xs.length ≤ 1000000) (hbase : base ≤ w.heap.size)
  (h : ∀ a' n' c' w',Own base e 1 (dInt .i64) w' (.slice a' n' c') (xs ++ [y]) → (∀ B W0,B ≤ base → Below B W0 w → Below B W0 w') → wpList P ops Q rest (a.put o.dst (.slice a' n' c')) w') :
  wpList P ops Q (o :: rest) a (w.alloc (.cells #[.int .i64 y] e)) := by
 have hO := Own.below (S := fun _ => False) (dInt.stable _ _) hown (qa1 w (.cells #[.int .i64 y] e))
 refine wpList_appV (w.alloc (.cells #[.int .i64 y] e)) hinfo hgd ho ht ⟨rfl,by omega,by omega⟩ (dInt.one _) (dInt.stable (fun _ => False) .i64) base hO hs (RSl.built (w' := w.alloc (.cells #[.int .i64 y] e)) (cs := [.int .i64 y]) (x := y) (Nat.zero_le _) (qa8 w _) rfl ⟨rfl,hwf⟩) hx (by simp only [List.length_cons,List.length_nil];omega) (by simp;omega) ?_
 intro a' n' c' w' hg _ ho'
 refine h a' n' c' w' (ho' (fun _ _ h => h.elim)) fun B W0 hB hW => ?_
 exact (hW.alloc (by omega) _).grown hg (by simp;omega) (fun k e => by have := (Own.lt hO k e).1;omega)
theorem wpList_appE {α : Type} {z : Value} {size bytes : Nat} {ops : Array Oper} {rest : List Oper} {o : Oper} {a : Act} {Q : Exit → Act → World → Prop} {e t : TypeId} (hinfo : (P.info? e).map (fun i => (i.zero,i.size,i.bytes)) = some (some z,size,bytes))
  (hgd : o.guard = none) {s x : Operand} (ho : o.op = .call { callee := .builtin .append,args := #[s,x],argTypes := #[t,t] }) (ht : P.underlying t = some (.slice e))
  (hzs : z.cells.size = size ∧ 0 < size ∧ 0 < bytes ∧ bytes ≤ 1000) {dec : (Nat → Prop) → World → List Value → α → Prop} (F : Fam dec) (base : Nat)
  {v : Value} {xs : List α} (hown : OwnX base e size dec w v xs) (hs : a.eval s = v) {cs : List Value} {y : α} (hl : cs.length = size) (hy : dec (Rg base w v) w cs y)
  (hx : a.eval x = .slice (some ⟨w.heap.size,0,none⟩) 1 1) (h63 : xs.length ≤ 1000000) (hbase : base ≤ w.heap.size)
  (h : ∀ a' n' c' w',OwnX base e size dec w' (.slice a' n' c') (xs ++ [y]) → (∀ B W0,B ≤ base → Below B W0 w → Below B W0 w') → wpList P ops Q rest (a.put o.dst (.slice a' n' c')) w') :
  wpList P ops Q (o :: rest) a (w.alloc (.cells cs.toArray e)) := by
 have hO := OwnX.below F hown (qa1 w (.cells cs.toArray e))
 refine wpList_appX (w.alloc (.cells cs.toArray e)) hinfo hgd ho ht ⟨hzs.1,hzs.2.1,hzs.2.2.1⟩ F base hO hs (g := w.heap.size) (cs := cs) (y := y) (qa8 w _) hl ?_ hx ?_ (by simp;omega) ?_
 ·exact F.mono (fun b hb => ⟨hb.1,by have := hb.2.1;simp;omega,hb.2.2⟩) (F.stable _ _ _ _ _ (.of_below (qa1 _ _)) hy)
 ·have h1 : (xs.length + 1) * bytes ≤ 1000001 * 1000 := Nat.mul_le_mul (by omega) hzs.2.2.2
  omega
 ·intro a' n' c' w' hg ho'
  refine h a' n' c' w' ho' fun B W0 hB hW => ?_
  exact (hW.alloc (by omega) _).grown hg (by simp;omega) (fun k e => by have := (Own.lt hO k e).1;omega)
end
theorem RSl.len {α : Type} {S : Nat → Prop} {n : Nat} {dec : World → List Value → α → Prop} {w : World} {a : Option Addr} {m cap : Nat} {xs : List α} (h : RSl S n dec w (.slice a m cap) xs) : m = xs.length := by
 obtain ⟨a',cap',h1,-,-⟩ := RSl.shape h
 simp only [Value.slice.injEq] at h1
 exact h1.2.1
theorem Own.len {α : Type} {base : Nat} {e : TypeId} {n : Nat} {dec : World → List Value → α → Prop} {w : World} {a : Option Addr} {m cap : Nat} {xs : List α} (h : Own base e n dec w (.slice a m cap) xs) : m = xs.length := by
 obtain ⟨a',cap',h1⟩ := Own.shape h
 simp only [Value.slice.injEq] at h1
 exact h1.2.1
end
end Go.Proofs.YthcbkhfmdginiaaGreat
