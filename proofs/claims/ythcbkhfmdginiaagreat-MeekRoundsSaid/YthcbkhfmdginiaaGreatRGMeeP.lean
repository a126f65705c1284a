/- Texts of one claim,put together: MeeP,MeeQ,MeeT,MeeR. -/
import Derived.Test.YthcbkhfmdginiaaGreatRGGreA
import Derived.Test.YthcbkhfmdginiaaGreatRGGreM
import Derived.Test.YthcbkhfmdginiaaGreatRGDec

namespace Go.Proofs.YthcbkhfmdginiaaGreat
section

def upU (rest k : Int) : Int := (rest * k + 999999999) / 1000000000
def restM (K : List Int) : Int → List Int → Int
 | r,[] => r
 | r,c :: l => restM K (r - upU r (gI K c)) l
def partM (K : List Int) (x : Int) : Int → List Int → Int
 | _,[] => 0
 | r,c :: l => (if c = x then upU r (gI K c) else 0) + partM K x (r - upU r (gI K c)) l
def hadM (rows : List Row) (K : List Int) (x : Int) : Int := (rows.map fun r => partM K x 1000000000 r.marks * r.many).sum
def lostM (rows : List Row) (K : List Int) : Int := (rows.map fun r => if r.marks.length > 0 then restM K 1000000000 r.marks * r.many else 0).sum
def quoM (votes lost seats : Int) : Int := (votes * 1000000000 - lost) / (seats + 1) + 1
def keepM (k n q : Int) : Int := k - k * (n - q) / n
section
variable (C seats : Nat) (rows : List Row)
def hadMs (K : List Int) : List Int := fl C fun x => hadM rows K x
def quoL (K : List Int) : Int := quoM (markS rows) (lostM rows K) seats
def reachB (inn K : List Int) : Bool := inn.any fun x => decide (quoL seats rows K ≤ gI (hadMs C rows K) x)
def aboveB (el K : List Int) : Bool := el.any fun x => decide (gI (hadMs C rows K) x > quoL seats rows K + 1000000)
def nextK (el K : List Int) : List Int :=
 fl C fun x => if el.contains (x : Int) && decide (gI (hadMs C rows K) x > quoL seats rows K) then keepM (gI K x) (gI (hadMs C rows K) x) (quoL seats rows K) else gI K x
def convK (inn el : List Int) : Nat → List Int → List Int
 | 0,K => K
 | n + 1,K => if reachB C seats rows inn K || !aboveB C seats rows el K then K else convK inn el n (nextK C seats rows el K)
def convS (K inn el : List Int) : List Int := if inn.length + el.length ≤ seats then K else convK C seats rows inn el 199 K
def meeR : Rule (List Int) where
 had := fun K inn el => hadMs C rows (convS C seats rows K inn el)
 lost := fun K inn el => lostM rows (convS C seats rows K inn el)
 reach := fun K inn el => reachB C seats rows inn (convS C seats rows K inn el)
 win := fun K inn el _ => convS C seats rows K inn el
 out := fun K inn el x => (convS C seats rows K inn el).set x.toNat 0
end
def meeS (p : Prof) (seats : Nat) (lot : List Int) (k : Nat) : Sq (List Int) := run (meeR p.cands.toNat seats p.rows) seats lot (List.replicate p.cands.toNat 1000000000) p.cands.toNat k
def meeV (p : Prof) (seats : Int) (lot : List Int) : Outc :=
 if rankI p seats lot = 0 then ⟨(meeS p seats.toNat lot p.cands.toNat).el,(meeS p seats.toNat lot p.cands.toNat).rounds,(meeS p seats.toNat lot p.cands.toNat).ties⟩ else noO
def KOk (K : List Int) : Prop := ∀ x : Int,0 ≤ gI K x ∧ gI K x ≤ 1000000000
theorem up_bound {r k : Int} (h0 : 0 ≤ r) (hk : 0 ≤ k ∧ k ≤ 1000000000) : 0 ≤ upU r k ∧ upU r k ≤ r := by
 have h1 : 0 ≤ r * k := Int.mul_nonneg h0 hk.1
 have h2 : r * k ≤ r * 1000000000 := Int.mul_le_mul_of_nonneg_left hk.2 h0
 unfold upU
 omega
theorem up_zero {r : Int} : upU r 0 = 0 := by unfold upU;rw [Int.mul_zero];rfl
theorem rest_snoc {K : List Int} {c : Int} : ∀ {l : List Int} {r : Int},restM K r (l ++ [c]) = restM K r l - upU (restM K r l) (gI K c)
 | [],_ => rfl
 | _ :: l,_ => rest_snoc (l := l)
theorem part_snoc {K : List Int} {c x : Int} : ∀ {l : List Int} {r : Int},partM K x r (l ++ [c]) = partM K x r l + if c = x then upU (restM K r l) (gI K c) else 0
 | [],r => by simp [partM,restM]
 | d :: l,r => by
  simp only [List.cons_append,partM,restM]
  rw [part_snoc (l := l),Int.add_assoc]
theorem part_out {K : List Int} {x : Int} : ∀ {l : List Int} {r : Int},x ∉ l → partM K x r l = 0
 | [],_,_ => rfl
 | d :: l,r,h => by
  rw [partM,if_neg (fun e => h (by rw [e];exact List.mem_cons_self)),part_out (l := l) (fun hm => h (List.mem_cons_of_mem _ hm))];rfl
theorem rest_bound {K : List Int} (hK : KOk K) : ∀ {l : List Int} {r : Int},0 ≤ r → 0 ≤ restM K r l ∧ restM K r l ≤ r
 | [],r,h => ⟨h,Int.le_refl _⟩
 | d :: l,r,h => by
  have h1 := up_bound h (hK d)
  have h2 := rest_bound hK (l := l) (r := r - upU r (gI K d)) (by omega)
  rw [restM]
  omega
theorem part_nonneg {K : List Int} (hK : KOk K) {x : Int} : ∀ {l : List Int} {r : Int},0 ≤ r → 0 ≤ partM K x r l
 | [],r,h => Int.le_refl _
 | d :: l,r,h => by
  have h1 := up_bound h (hK d)
  have h2 := part_nonneg hK (x := x) (l := l) (r := r - upU r (gI K d)) (by omega)
  rw [partM]
  split <;> omega
theorem fl_end (n : Nat) (f : Nat → Int) : fl (n + 1) f = fl n f ++ [f n] := by simp [fl,List.range_succ]
theorem part_sum {K : List Int} {C : Nat} : ∀ {l : List Int} {r : Int},(∀ x ∈ l,0 ≤ x ∧ x < (C : Int)) → (fl C fun x => partM K x r l).sum + restM K r l = r
 | [], r, _ => by
  have : (fl C fun x => partM K x r []) = fl C fun _ => 0 := fl_congr fun x _ => rfl
  rw [this]
  have h0 : ∀ C : Nat,(fl C fun _ => (0 : Int)).sum = 0 := fun C => by
   induction C with
   | zero => rfl
   | succ n ih => rw [fl_end,List.sum_append,ih];rfl
  rw [h0,restM];omega
 | d :: l, r, h => by
  have ih := part_sum (K := K) (l := l) (r := r - upU r (gI K d)) fun x hx => h x (List.mem_cons_of_mem _ hx)
  have hd := h d List.mem_cons_self
  have h1 : ∀ n : Nat,(fl n fun x => partM K x r (d :: l)).sum = (fl n fun x => partM K x (r - upU r (gI K d)) l).sum + if d < (n : Int) then upU r (gI K d) else 0 := fun n => by
   induction n with
   | zero => rw [if_neg (by omega)];rfl
   | succ n ih2 =>
    rw [fl_end,fl_end,List.sum_append,List.sum_append,ih2]
    simp only [List.sum_cons,List.sum_nil,partM]
    by_cases e : d = (n : Int)
    ·rw [if_pos e,if_neg (by omega),if_pos (by omega)];omega
    ·rw [if_neg e]
     by_cases e2 : d < (n : Int)
     ·rw [if_pos e2,if_pos (by omega)];omega
     ·rw [if_neg e2,if_neg (by omega)];omega
  rw [h1,if_pos hd.2,restM]
  omega
theorem keep_bound {k n q : Int} (hk : 0 ≤ k ∧ k ≤ 1000000000) (hn : 0 < n) (hq : 0 ≤ q ∧ q ≤ n) : 0 ≤ keepM k n q ∧ keepM k n q ≤ k := by
 have h1 : 0 ≤ k * (n - q) := Int.mul_nonneg hk.1 (by omega)
 have h2 : k * (n - q) ≤ k * n := Int.mul_le_mul_of_nonneg_left (by omega) hk.1
 have h3 : 0 ≤ k * (n - q) / n := Int.ediv_nonneg h1 (by omega)
 have h4 : k * (n - q) / n ≤ k := by
  have := Int.ediv_le_ediv hn h2
  rwa [Int.mul_ediv_cancel _ (by omega)] at this
 unfold keepM
 omega
end

section

structure KInv (C : Nat) (K : List Int) : Prop where
 len : K.length = C
 val : ∀ x ∈ K,0 ≤ x ∧ x ≤ 1000000000
theorem KInv.ok {C : Nat} {K : List Int} (h : KInv C K) : KOk K := fun x => by
 unfold gI
 rw [List.getD_eq_getElem?_getD]
 cases hg : K[x.toNat]? with
 | none => exact ⟨Int.le_refl _,by simp⟩
 | some y => exact h.val y (List.mem_of_getElem? hg)
structure RowsM (C : Nat) (rows : List Row) : Prop where
 many : ∀ r ∈ rows,0 < r.many
 marks : ∀ r ∈ rows,r.marks.Nodup ∧ ∀ x ∈ r.marks,0 ≤ x ∧ x < (C : Int)
theorem RowsM.of {p : Prof} {seats : Int} {lot : List Int} {C sn : Nat} (h : RankF p seats lot C sn) : RowsM C p.rows := ⟨h.many,h.marks⟩
theorem RowsM.tail {C : Nat} {r : Row} {rows : List Row} (h : RowsM C (r :: rows)) : RowsM C rows :=
 ⟨fun s hs => h.many s (List.mem_cons_of_mem _ hs),fun s hs => h.marks s (List.mem_cons_of_mem _ hs)⟩
theorem hadM_nonneg {C : Nat} {K : List Int} (hK : KOk K) (x : Int) : ∀ {rows : List Row},RowsM C rows → 0 ≤ hadM rows K x
 | [],_ => Int.le_refl _
 | r :: rows,h => by
  have ih := hadM_nonneg hK x h.tail
  have h1 := part_nonneg hK (x := x) (l := r.marks) (r := 1000000000) (by omega)
  have h2 := h.many r List.mem_cons_self
  have := Int.mul_nonneg h1 (Int.le_of_lt h2)
  rw [hadM] at ih ⊢
  rw [List.map_cons,List.sum_cons]
  omega
theorem lostM_nonneg {C : Nat} {K : List Int} (hK : KOk K) : ∀ {rows : List Row},RowsM C rows → 0 ≤ lostM rows K
 | [],_ => Int.le_refl _
 | r :: rows,h => by
  have ih := lostM_nonneg hK h.tail
  have h1 := (rest_bound hK (l := r.marks) (r := 1000000000) (by omega)).1
  have h2 := h.many r List.mem_cons_self
  have := Int.mul_nonneg h1 (Int.le_of_lt h2)
  rw [lostM] at ih ⊢
  rw [List.map_cons,List.sum_cons]
  split <;> omega
theorem fl_zsum : ∀ C : Nat,(fl C fun _ => (0 : Int)).sum = 0
 | 0 => rfl
 | n + 1 => by rw [fl_end,List.sum_append,fl_zsum n];rfl
theorem fl_plus (f g : Nat → Int) : ∀ C : Nat,(fl C fun x => f x + g x).sum = (fl C f).sum + (fl C g).sum
 | 0 => rfl
 | n + 1 => by
  rw [fl_end,fl_end,fl_end,List.sum_append,List.sum_append,List.sum_append,fl_plus f g n]
  simp only [List.sum_cons,List.sum_nil]
  omega
theorem fl_times (f : Nat → Int) (m : Int) : ∀ C : Nat,(fl C fun x => f x * m).sum = (fl C f).sum * m
 | 0 => by simp [fl]
 | n + 1 => by
  rw [fl_end,fl_end,List.sum_append,List.sum_append,fl_times f m n,Int.add_mul]
  simp
theorem markS_cons (r : Row) (rows : List Row) : markS (r :: rows) = (if r.marks.length > 0 then r.many else 0) + markS rows := by
 rw [markS,markS,List.filter_cons]
 cases r.marks <;> simp
theorem hadM_sum {C : Nat} {K : List Int} : ∀ {rows : List Row},RowsM C rows → (hadMs C rows K).sum + lostM rows K = markS rows * 1000000000
 | [],_ => by
  have : hadMs C [] K = fl C fun _ => 0 := fl_congr fun x _ => rfl
  rw [this,fl_zsum];rfl
 | r :: rows, h => by
  have ih := hadM_sum (K := K) h.tail
  have h1 : hadMs C (r :: rows) K = fl C fun x => partM K x 1000000000 r.marks * r.many + hadM rows K x := fl_congr fun x _ => by rw [hadM,List.map_cons,List.sum_cons];rfl
  have h2 := part_sum (K := K) (C := C) (l := r.marks) (r := 1000000000) (h.marks r List.mem_cons_self).2
  rw [h1,fl_plus,fl_times,markS_cons,Int.add_mul]
  have h3 : lostM (r :: rows) K = (if r.marks.length > 0 then restM K 1000000000 r.marks * r.many else 0) + lostM rows K := by rw [lostM,List.map_cons,List.sum_cons];rfl
  rw [h3]
  rw [hadMs] at ih
  by_cases hm : r.marks.length > 0
  ·rw [if_pos hm, if_pos hm]
   have h4 : (fl C fun x => partM K x 1000000000 r.marks).sum * r.many + restM K 1000000000 r.marks * r.many = r.many * 1000000000 := by
    rw [← Int.add_mul,h2,Int.mul_comm]
   omega
  ·rw [if_neg hm, if_neg hm]
   have h0 : r.marks = [] := List.eq_nil_of_length_eq_zero (by omega)
   have h5 : (fl C fun x => partM K x 1000000000 r.marks) = fl C fun _ => 0 := fl_congr fun x _ => by rw [h0];rfl
   rw [h5,fl_zsum]
   omega
theorem fl_le_sum {f : Nat → Int} (h : ∀ x,0 ≤ f x) : ∀ {C x : Nat},x < C → f x ≤ (fl C f).sum
 | 0,_,hx => absurd hx (Nat.not_lt_zero _)
 | n + 1, x, hx => by
  have hs : ∀ m,0 ≤ (fl m f).sum := fun m => by
   induction m with
   | zero => exact Int.le_refl _
   | succ m ih => rw [fl_end,List.sum_append];have := h m;simp only [List.sum_cons,List.sum_nil];omega
  rw [fl_end,List.sum_append]
  simp only [List.sum_cons,List.sum_nil]
  by_cases e : x = n
  ·subst e;have := hs x;omega
  ·have := fl_le_sum h (C := n) (x := x) (by omega);have := h n;omega
theorem hadM_at {C : Nat} {rows : List Row} {K : List Int} {x : Int} (hx : 0 ≤ x ∧ x < (C : Int)) : gI (hadMs C rows K) x = hadM rows K x := by
 obtain ⟨k,rfl⟩ : ∃ k : Nat,x = (k : Int) := ⟨x.toNat,by omega⟩
 have : k < (hadMs C rows K).length := by rw [hadMs,qae];omega
 rw [gI_at this]
 exact fl_get this
section
variable {C sn : Nat} {p : Prof} {seats : Int} {lot : List Int}
theorem RankF.hadM (h : RankF p seats lot C sn) {K : List Int} (hK : KOk K) {x : Int} (hx : 0 ≤ x ∧ x < (C : Int)) : 0 ≤ hadM p.rows K x ∧ hadM p.rows K x ≤ markS p.rows * 1000000000 := by
 have h0 := fun x => hadM_nonneg (x := x) hK (RowsM.of h)
 have h1 := lostM_nonneg hK (RowsM.of h)
 have h2 := hadM_sum (K := K) (RowsM.of h)
 obtain ⟨k,rfl⟩ : ∃ k : Nat,x = (k : Int) := ⟨x.toNat,by omega⟩
 have h3 := fl_le_sum (f := fun x => Proofs.YthcbkhfmdginiaaGreat.hadM p.rows K x) (fun x => h0 x) (C := C) (x := k) (by omega)
 rw [hadMs] at h2
 have := h0 k
 omega
theorem fl_nonneg {f : Nat → Int} (h : ∀ x,0 ≤ f x) : ∀ m,0 ≤ (fl m f).sum
 | 0 => Int.le_refl _
 | m + 1 => by rw [fl_end,List.sum_append];have := h m;have := fl_nonneg h m;simp only [List.sum_cons,List.sum_nil];omega
theorem RankF.lostM (h : RankF p seats lot C sn) {K : List Int} (hK : KOk K) : 0 ≤ lostM p.rows K ∧ lostM p.rows K ≤ markS p.rows * 1000000000 := by
 have h1 := lostM_nonneg hK (RowsM.of h)
 have h2 := hadM_sum (K := K) (RowsM.of h)
 have h3 := fl_nonneg (f := fun x => Proofs.YthcbkhfmdginiaaGreat.hadM p.rows K x) (fun x => hadM_nonneg (x := x) hK (RowsM.of h)) C
 rw [hadMs] at h2
 exact ⟨h1,by omega⟩
theorem RankF.quoL (h : RankF p seats lot C sn) {K : List Int} (hK : KOk K) : 1 ≤ quoL sn p.rows K ∧ quoL sn p.rows K ≤ 1000000000000001 := by
 have h1 := h.lostM hK
 have h2 := h.votes
 have h3 : 0 ≤ (markS p.rows * 1000000000 - Proofs.YthcbkhfmdginiaaGreat.lostM p.rows K) / (sn + 1) := Int.ediv_nonneg (by omega) (by omega)
 have h4 : (markS p.rows * 1000000000 - Proofs.YthcbkhfmdginiaaGreat.lostM p.rows K) / (sn + 1) ≤ markS p.rows * 1000000000 - Proofs.YthcbkhfmdginiaaGreat.lostM p.rows K := Int.ediv_le_self _ (by omega)
 unfold Proofs.YthcbkhfmdginiaaGreat.quoL quoM
 omega
theorem KInv.next (h : RankF p seats lot C sn) {K : List Int} (hK : KInv C K) (el : List Int) : KInv C (nextK C sn p.rows el K) := by
 refine ⟨qae _ _,fun y hy => ?_⟩
 obtain ⟨i,hi,rfl⟩ := List.getElem_of_mem hy
 have hq := h.quoL hK.ok
 simp only [nextK] at hi ⊢
 rw [fl_get]
 split
 ·rename_i hc
  rw [Bool.and_eq_true] at hc
  have hc2 := of_decide_eq_true hc.2
  have := keep_bound (hK.ok (i : Int)) (n := gI (hadMs C p.rows K) i) (q := Proofs.YthcbkhfmdginiaaGreat.quoL sn p.rows K) (by omega) ⟨by omega,by omega⟩
  have := hK.ok (i : Int)
  omega
 ·exact hK.ok _
theorem KInv.convK (h : RankF p seats lot C sn) (inn el : List Int) : ∀ (n : Nat) {K : List Int},KInv C K → KInv C (convK C sn p.rows inn el n K)
 | 0,_,hK => hK
 | n + 1,K,hK => by
  rw [Proofs.YthcbkhfmdginiaaGreat.convK]
  split
  ·exact hK
  ·exact KInv.convK h inn el n (hK.next h el)
theorem KInv.conv (h : RankF p seats lot C sn) {K : List Int} (hK : KInv C K) (inn el : List Int) : KInv C (convS C sn p.rows K inn el) := by
 unfold convS
 split
 ·exact hK
 ·exact hK.convK h inn el 199
theorem KInv.zero {K : List Int} (hK : KInv C K) (i : Nat) : KInv C (K.set i 0) :=
 ⟨by rw [List.length_set]; exact hK.len, fun x hx => by
  rcases List.mem_or_eq_of_mem_set hx with hx | rfl
  ·exact hK.val x hx
  ·exact ⟨Int.le_refl _,by decide⟩⟩
theorem meeS_inv (h : RankF p seats lot C sn) : ∀ k,KInv C (meeS p sn lot k).st
 | 0 => by
  have hC : p.cands.toNat = C := by rw [h.cands,Int.toNat_natCast]
  refine ⟨by simp [meeS,run,hC],fun x hx => ?_⟩
  simp only [meeS,run,hC] at hx
  rw [List.eq_of_mem_replicate hx]
  exact ⟨by decide,Int.le_refl _⟩
 | k + 1 => by
  have ih := meeS_inv h k
  have hC : p.cands.toNat = C := by rw [h.cands,Int.toNat_natCast]
  unfold meeS at ih ⊢
  rw [hC] at ih ⊢
  rw [run]
  split
  ·unfold step
   split
   ·exact ih
   ·split
    ·exact ih.conv h _ _
    ·exact (ih.conv h _ _).zero _
  ·exact ih
theorem meeS_sq (h : RankF p seats lot C sn) (k : Nat) : SqI C sn (meeS p sn lot k) := by
 have hC : p.cands.toNat = C := by rw [h.cands,Int.toNat_natCast]
 unfold meeS
 rw [hC]
 exact run_inv h.lot h.s.2 k
theorem meeS_step (h : RankF p seats lot C sn) {k : Nat} (hk : (meeS p sn lot k).el.length < sn) : meeS p sn lot (k + 1) = step (meeR C sn p.rows) sn lot (meeS p sn lot k) := by
 have hC : p.cands.toNat = C := by rw [h.cands,Int.toNat_natCast]
 unfold meeS at hk ⊢
 rw [hC] at hk ⊢
 rw [run,if_pos hk]
theorem meeS_end (h : RankF p seats lot C sn) {k : Nat} (hk : ¬ (meeS p sn lot k).el.length < sn) : meeS p sn lot k = meeS p sn lot C := by
 have hC : p.cands.toNat = C := by rw [h.cands,Int.toNat_natCast]
 unfold meeS at hk ⊢
 rw [hC] at hk ⊢
 exact run_end h.lot h.s.2 hk
end
end

section

theorem part_le {K : List Int} (hK : KOk K) {x : Int} : ∀ {l : List Int} {r : Int},0 ≤ r → partM K x r l ≤ r
 | [],_,h => h
 | d :: l,r,h => by
  have h1 := up_bound h (hK d)
  have h2 := part_le hK (x := x) (l := l) (r := r - upU r (gI K d)) (by omega)
  rw [partM]
  split <;> omega
theorem sumR_cons (r : Row) (rows : List Row) : sumR (r :: rows) = r.many + sumR rows := by rw [sumR,sumR,List.map_cons,List.sum_cons]
theorem hadM_le {K : List Int} (hK : KOk K) (x : Int) : ∀ {rows : List Row},(∀ r ∈ rows,0 < r.many) → 0 ≤ hadM rows K x ∧ hadM rows K x ≤ sumR rows * 1000000000
 | [],_ => ⟨Int.le_refl _,Int.le_refl _⟩
 | r :: rows,h => by
  have ih := hadM_le hK x (rows := rows) fun s hs => h s (List.mem_cons_of_mem _ hs)
  have h0 := part_nonneg hK (x := x) (l := r.marks) (r := 1000000000) (by omega)
  have h1 := part_le hK (x := x) (l := r.marks) (r := 1000000000) (by omega)
  have h2 := h r List.mem_cons_self
  have h3 := Int.mul_nonneg h0 (Int.le_of_lt h2)
  have h4 := Int.mul_le_mul_of_nonneg_right h1 (Int.le_of_lt h2)
  have e : hadM (r :: rows) K x = partM K x 1000000000 r.marks * r.many + hadM rows K x := by rw [hadM,hadM,List.map_cons,List.sum_cons]
  rw [e,sumR_cons,Int.add_mul]
  omega
theorem lostM_le {K : List Int} (hK : KOk K) : ∀ {rows : List Row},(∀ r ∈ rows,0 < r.many) → 0 ≤ lostM rows K ∧ lostM rows K ≤ sumR rows * 1000000000
 | [],_ => ⟨Int.le_refl _,Int.le_refl _⟩
 | r :: rows,h => by
  have ih := lostM_le hK (rows := rows) fun s hs => h s (List.mem_cons_of_mem _ hs)
  have h0 := rest_bound hK (l := r.marks) (r := 1000000000) (by omega)
  have h2 := h r List.mem_cons_self
  have h3 := Int.mul_nonneg h0.1 (Int.le_of_lt h2)
  have h4 := Int.mul_le_mul_of_nonneg_right h0.2 (Int.le_of_lt h2)
  have e : lostM (r :: rows) K = (if r.marks.length > 0 then restM K 1000000000 r.marks * r.many else 0) + lostM rows K := by rw [lostM,lostM,List.map_cons,List.sum_cons]
  rw [e,sumR_cons,Int.add_mul]
  split <;> omega
theorem hadM_succ {K : List Int} {x : Int} {rows : List Row} {i : Nat} (h : i < rows.length) : hadM (rows.take (i + 1)) K x = hadM (rows.take i) K x + partM K x 1000000000 rows[i].marks * rows[i].many := by
 rw [hadM,hadM,List.take_succ_eq_append_getElem h,List.map_append,List.sum_append];simp
theorem lostM_succ {K : List Int} {rows : List Row} {i : Nat} (h : i < rows.length) : lostM (rows.take (i + 1)) K = lostM (rows.take i) K + if rows[i].marks.length > 0 then restM K 1000000000 rows[i].marks * rows[i].many else 0 := by
 rw [lostM,lostM,List.take_succ_eq_append_getElem h,List.map_append,List.sum_append];simp
theorem sumR_tk {rows : List Row} (h : ∀ r ∈ rows,0 < r.many) (i : Nat) : 0 ≤ sumR (rows.take i) ∧ sumR (rows.take i) ≤ sumR rows := by
 have nn : ∀ l : List Row,(∀ r ∈ l,0 < r.many) → 0 ≤ sumR l := fun l => by
  induction l with
  | nil => intro _;exact Int.le_refl _
  | cons r l ih =>
   intro hl
   have := ih fun s hs => hl s (List.mem_cons_of_mem _ hs)
   have := hl r List.mem_cons_self
   rw [sumR_cons];omega
 have e : sumR rows = sumR (rows.take i) + sumR (rows.drop i) := by
  conv => lhs;rw [← List.take_append_drop i rows]
  rw [sumR,sumR,sumR,List.map_append,List.sum_append]
 have h1 := nn (rows.take i) fun r hr => h r (List.mem_of_mem_take hr)
 have h2 := nn (rows.drop i) fun r hr => h r (List.mem_of_mem_drop hr)
 omega
theorem sumR_succ {rows : List Row} {i : Nat} (h : i < rows.length) : sumR (rows.take (i + 1)) = sumR (rows.take i) + rows[i].many := by
 rw [sumR,sumR,List.take_succ_eq_append_getElem h,List.map_append,List.sum_append];simp
def hadJ (K : List Int) (rows : List Row) (i : Nat) (m : List Int) (many : Int) (j : Nat) (x : Int) : Int := hadM (rows.take i) K x + partM K x 1000000000 (m.take j) * many
theorem hadJ_zero {K : List Int} {rows : List Row} {i : Nat} {m : List Int} {many x : Int} : hadJ K rows i m many 0 x = hadM (rows.take i) K x := by simp [hadJ,partM]
theorem hadJ_succ {K : List Int} {rows : List Row} {i : Nat} {m : List Int} {many x : Int} {j : Nat} (hj : j < m.length) : hadJ K rows i m many (j + 1) x = if x = m[j] then hadJ K rows i m many j x + upU (restM K 1000000000 (m.take j)) (gI K m[j]) * many else hadJ K rows i m many j x := by
 unfold hadJ
 rw [List.take_succ_eq_append_getElem hj,part_snoc,Int.add_mul]
 by_cases e : x = m[j]
 ·rw [if_pos e,if_pos e.symm];omega
 ·rw [if_neg e,if_neg (fun h => e h.symm)];omega
theorem hadJ_all {K : List Int} {rows : List Row} {i : Nat} {x : Int} (h : i < rows.length) : hadJ K rows i rows[i].marks rows[i].many rows[i].marks.length x = hadM (rows.take (i + 1)) K x := by
 rw [hadJ,List.take_length,hadM_succ h]
theorem hadJ_bound {K : List Int} (hK : KOk K) {rows : List Row} (h : ∀ r ∈ rows,0 < r.many) (hs : sumR rows ≤ 1000000) {i : Nat} (hi : i < rows.length) (j : Nat) (x : Int) : 0 ≤ hadJ K rows i rows[i].marks rows[i].many j x ∧ hadJ K rows i rows[i].marks rows[i].many j x ≤ 1000000000000000 := by
 have h1 := hadM_le hK x (rows := rows.take i) fun r hr => h r (List.mem_of_mem_take hr)
 have h2 := part_nonneg hK (x := x) (l := rows[i].marks.take j) (r := 1000000000) (by omega)
 have h3 := part_le hK (x := x) (l := rows[i].marks.take j) (r := 1000000000) (by omega)
 have hm := h _ (List.getElem_mem hi)
 have h4 := Int.mul_nonneg h2 (Int.le_of_lt hm)
 have h5 := Int.mul_le_mul_of_nonneg_right h3 (Int.le_of_lt hm)
 have h6 := sumR_tk h (i + 1)
 rw [sumR_succ hi] at h6
 unfold hadJ
 omega
theorem partJ_bound {K : List Int} (hK : KOk K) {rows : List Row} (h : ∀ r ∈ rows,0 < r.many) (hs : sumR rows ≤ 1000000) {i : Nat} (hi : i < rows.length) {j : Nat} (hj : j < rows[i].marks.length) :
  (0 ≤ upU (restM K 1000000000 (rows[i].marks.take j)) (gI K rows[i].marks[j]) ∧ upU (restM K 1000000000 (rows[i].marks.take j)) (gI K rows[i].marks[j]) ≤ 1000000000) ∧
  0 ≤ upU (restM K 1000000000 (rows[i].marks.take j)) (gI K rows[i].marks[j]) * rows[i].many ∧ upU (restM K 1000000000 (rows[i].marks.take j)) (gI K rows[i].marks[j]) * rows[i].many ≤ 1000000000000000 := by
 have h1 := rest_bound hK (l := rows[i].marks.take j) (r := 1000000000) (by omega)
 have h2 := up_bound h1.1 (hK rows[i].marks[j])
 have hm := h _ (List.getElem_mem hi)
 have h4 := Int.mul_nonneg h2.1 (Int.le_of_lt hm)
 have h5 := Int.mul_le_mul_of_nonneg_right (show upU (restM K 1000000000 (rows[i].marks.take j)) (gI K rows[i].marks[j]) ≤ 1000000000 by omega) (Int.le_of_lt hm)
 have h6 := sumR_tk h (i + 1)
 rw [sumR_succ hi] at h6
 have h7 := sumR_tk h i
 omega
theorem lostJ_bound {K : List Int} (hK : KOk K) {rows : List Row} (h : ∀ r ∈ rows,0 < r.many) (hs : sumR rows ≤ 1000000) {i : Nat} (hi : i < rows.length) :
  (0 ≤ restM K 1000000000 rows[i].marks * rows[i].many ∧ restM K 1000000000 rows[i].marks * rows[i].many ≤ 1000000000000000) ∧ 0 ≤ lostM (rows.take i) K ∧ lostM (rows.take i) K + restM K 1000000000 rows[i].marks * rows[i].many ≤ 1000000000000000 := by
 have h1 := rest_bound hK (l := rows[i].marks) (r := 1000000000) (by omega)
 have h2 := lostM_le hK (rows := rows.take i) fun r hr => h r (List.mem_of_mem_take hr)
 have hm := h _ (List.getElem_mem hi)
 have h4 := Int.mul_nonneg h1.1 (Int.le_of_lt hm)
 have h5 := Int.mul_le_mul_of_nonneg_right h1.2 (Int.le_of_lt hm)
 have h6 := sumR_tk h (i + 1)
 rw [sumR_succ hi] at h6
 have h7 := sumR_tk h i
 omega
end

section

theorem gI_nat (l : List Int) (x : Int) : gI l x = gI l (x.toNat : Int) := by unfold gI;rw [Int.toNat_natCast]
theorem gI_fl {n : Nat} {f : Nat → Int} {k : Nat} (h : k < n) : gI (fl n f) (k : Int) = f k := by
 rw [gI_at (by rw [qae];exact h),fl_get]
theorem gI_over {l : List Int} {k : Nat} (h : ¬ k < l.length) : gI l (k : Int) = 0 := by
 rw [gI,Int.toNat_natCast,List.getD_eq_getElem?_getD,List.getElem?_eq_none (by omega)];rfl
section
variable {C sn : Nat} {p : Prof} {seats : Int} {lot : List Int}
theorem nextK_le (h : RankF p seats lot C sn) {K : List Int} (hK : KInv C K) (el : List Int) (x : Int) : gI (nextK C sn p.rows el K) x ≤ gI K x := by
 rw [gI_nat,gI_nat K]
 by_cases hx : x.toNat < C
 ·rw [nextK, gI_fl hx]
  have hq := h.quoL hK.ok
  split
  ·rename_i hc
   rw [Bool.and_eq_true] at hc
   have hc2 := of_decide_eq_true hc.2
   exact (keep_bound (hK.ok _) (by omega) ⟨by omega,by omega⟩).2
  ·exact Int.le_refl _
 ·rw [gI_over (by rw [nextK, qae]; exact hx), gI_over (by rw [hK.len]; exact hx)]
  exact Int.le_refl _
theorem convK_le (h : RankF p seats lot C sn) (inn el : List Int) (x : Int) : ∀ (n : Nat) {K : List Int},KInv C K → gI (convK C sn p.rows inn el n K) x ≤ gI K x
 | 0,_,_ => Int.le_refl _
 | n + 1,K,hK => by
  rw [convK]
  split
  ·exact Int.le_refl _
  ·exact Int.le_trans (convK_le h inn el x n (hK.next h el)) (nextK_le h hK el x)
theorem conv_le (h : RankF p seats lot C sn) {K : List Int} (hK : KInv C K) (inn el : List Int) (x : Int) : gI (convS C sn p.rows K inn el) x ≤ gI K x := by
 unfold convS
 split
 ·exact Int.le_refl _
 ·exact convK_le h inn el x 199 hK
theorem set_le {K : List Int} (hK : KOk K) (i : Nat) (x : Int) : gI (K.set i 0) x ≤ gI K x := by
 unfold gI
 rw [List.getD_eq_getElem?_getD,List.getD_eq_getElem?_getD,List.getElem?_set]
 have h0 := (hK x).1
 rw [gI,List.getD_eq_getElem?_getD] at h0
 split
 ·split
  ·exact h0
  ·exact h0
 ·exact Int.le_refl _
theorem set_zero {K : List Int} {x : Int} : gI (K.set x.toNat 0) x = 0 := by
 unfold gI
 rw [List.getD_eq_getElem?_getD,List.getElem?_set,if_pos rfl]
 split <;> rfl
def mK (p : Prof) (sn : Nat) (lot : List Int) (C i : Nat) : List Int := convS C sn p.rows (meeS p sn lot i).st (meeS p sn lot i).inn (meeS p sn lot i).el
def mHad (p : Prof) (sn : Nat) (lot : List Int) (C i : Nat) : List Int := hadMs C p.rows (mK p sn lot C i)
def mLost (p : Prof) (sn : Nat) (lot : List Int) (C i : Nat) : Int := lostM p.rows (mK p sn lot C i)
def mQuo (p : Prof) (sn : Nat) (lot : List Int) (C i : Nat) : Int := quoL sn p.rows (mK p sn lot C i)
theorem mK_inv (h : RankF p seats lot C sn) (i : Nat) : KInv C (mK p sn lot C i) := (meeS_inv h i).conv h _ _
theorem meeS_round (h : RankF p seats lot C sn) {i : Nat} (hi : i < (meeS p sn lot C).rounds.length) : (meeS p sn lot i).el.length < sn ∧ (meeS p sn lot i).rounds = (meeS p sn lot C).rounds.take i ∧ (meeS p sn lot (i + 1)).rounds = (meeS p sn lot i).rounds ++ [(meeS p sn lot C).rounds[i]] := by
 have hC : p.cands.toNat = C := by rw [h.cands,Int.toNat_natCast]
 unfold meeS at hi ⊢
 simp only [hC] at hi ⊢
 exact run_round h.lot h.s.2 hi
theorem meeS_J (h : RankF p seats lot C sn) (i : Nat) : SqJ C sn (meeS p sn lot i) := by
 have hC : p.cands.toNat = C := by rw [h.cands,Int.toNat_natCast]
 unfold meeS
 rw [hC]
 exact run_inv2 h.lot h.s.2 h.s.1 (fun st inn el => qae _ _) i
theorem meeS_st (h : RankF p seats lot C sn) {i : Nat} (hi : (meeS p sn lot i).el.length < sn) :
  (meeS p sn lot (i + 1)).st = (meeS p sn lot i).st ∧ ¬ (meeS p sn lot (i + 1)).el.length < sn ∧ (meeS p sn lot i).inn.length + (meeS p sn lot i).el.length ≤ sn ∨
  (meeS p sn lot (i + 1)).st = mK p sn lot C i ∧ (∃ x,(meeS p sn lot (i + 1)).rounds = (meeS p sn lot i).rounds ++ [(meeS p sn lot i).rnd (meeR C sn p.rows) [x] []]) ∨
  ∃ x,x ∈ (meeS p sn lot i).inn ∧ (meeS p sn lot (i + 1)).st = (mK p sn lot C i).set x.toNat 0 ∧ (meeS p sn lot (i + 1)).rounds = (meeS p sn lot i).rounds ++ [(meeS p sn lot i).rnd (meeR C sn p.rows) [] [x]] := by
 have hI := meeS_sq h i
 have hst := meeS_step h hi
 have hne := hI.ne hi
 rw [hst]
 unfold mK
 generalize meeS p sn lot i = s at *
 unfold step
 split
 ·rename_i hf
  refine .inl ⟨rfl,?_,hf⟩
  obtain ⟨f1,f2,f3,f4,f5,f6⟩ := qb3 (had := s.had (meeR C sn p.rows)) h.lot hI.rng (qaz hI.asc) s.inn.length (Nat.le_refl _)
  have e : (s.fill (meeR C sn p.rows) lot).elected.length = s.inn.length := f4
  have := hI.enough
  simp only [List.length_append,e]
  omega
 ·split
  ·exact .inr (.inl ⟨rfl,_,rfl⟩)
  ·obtain ⟨k1, k2⟩ := hI.pick (qba h.lot) (f := fun y => - gI (s.had (meeR C sn p.rows)) y) hne
   exact .inr (.inr ⟨_,k2,rfl,rfl⟩)
theorem meeS_out (h : RankF p seats lot C sn) : ∀ i,∀ x ∈ (meeS p sn lot i).rounds.flatMap Rnd.out,gI (meeS p sn lot i).st x = 0
 | 0 => fun x hx => absurd hx List.not_mem_nil
 | i + 1 => fun x hx => by
  have ih := meeS_out h i
  by_cases hi : (meeS p sn lot i).el.length < sn
  ·have hold : ∀ K : List Int, (∀ z, 0 ≤ gI K z) → (∀ z, gI K z ≤ gI (meeS p sn lot i).st z) → x ∈ (meeS p sn lot i).rounds.flatMap Rnd.out → gI K x = 0 := fun K h0 hK hm => by
    have := ih x hm;have := h0 x;have := hK x;omega
   have hmk := fun z => conv_le h (meeS_inv h i) (meeS p sn lot i).inn (meeS p sn lot i).el z
   have hm0 := fun z => ((mK_inv h i).ok z).1
   rcases meeS_st h hi with ⟨k,-,k2⟩ | ⟨k,y,k2⟩ | ⟨y,-,k,k2⟩
   ·rw [k]
    have hst := meeS_step h hi
    rw [hst] at hx
    unfold step at hx
    rw [if_pos k2] at hx
    simp only [List.flatMap_append,List.flatMap_cons,List.flatMap_nil,List.append_nil,Sq.rnd] at hx
    exact ih x hx
   ·rw [k]
    rw [k2] at hx
    simp only [List.flatMap_append,List.flatMap_cons,List.flatMap_nil,List.append_nil,Sq.rnd] at hx
    exact hold _ hm0 hmk hx
   ·rw [k]
    rw [k2] at hx
    simp only [List.flatMap_append,List.flatMap_cons,List.flatMap_nil,List.append_nil,Sq.rnd,List.mem_append,List.mem_singleton] at hx
    rcases hx with hx | rfl
    ·have hz := (mK_inv h i).zero y.toNat
     exact hold _ (fun z => (hz.ok z).1) (fun z => Int.le_trans (set_le (mK_inv h i).ok y.toNat z) (hmk z)) hx
    ·exact set_zero
  ·have e : meeS p sn lot (i + 1) = meeS p sn lot i := by rw [meeS_end h hi]; exact meeS_end h (fun h2 => hi (by
    have : ¬ (meeS p sn lot C).el.length < sn := by rw [← meeS_end h hi];exact hi
    have hC : p.cands.toNat = C := by rw [h.cands,Int.toNat_natCast]
    have e2 : meeS p sn lot (i + 1) = meeS p sn lot i := by
     unfold meeS at hi ⊢
     rw [hC] at hi ⊢
     rw [run,if_neg hi]
    rwa [e2] at h2))
   rw [e] at hx ⊢
   exact ih x hx
theorem part_zero {K : List Int} {x : Int} (h : gI K x = 0) : ∀ {l : List Int} {r : Int},partM K x r l = 0
 | [],_ => rfl
 | c :: l,r => by
  rw [partM,part_zero h]
  split
  ·rename_i e;rw [e,h,up_zero];rfl
  ·rfl
theorem hadM_zero {K : List Int} {x : Int} (h : gI K x = 0) : ∀ {rows : List Row},hadM rows K x = 0
 | [] => rfl
 | r :: rows => by
  have ih := hadM_zero h (rows := rows)
  rw [hadM] at ih ⊢
  rw [List.map_cons,List.sum_cons,ih,part_zero h,Int.zero_mul];rfl
structure RndM (p : Prof) (sn : Nat) (lot : List Int) (C i : Nat) (r : Rnd) (rds : List Rnd) : Prop where
 had : r.had = (mHad p sn lot C i).map bill
 lost : r.lost = bill (mLost p sn lot C i)
 len : (mHad p sn lot C i).length = C
 bnd : ∀ x : Nat,0 ≤ gI (mHad p sn lot C i) x ∧ gI (mHad p sn lot C i) x ≤ 1000000000000000
 lbnd : 0 ≤ mLost p sn lot C i ∧ mLost p sn lot C i ≤ markS p.rows * 1000000000
 qbnd : 1 ≤ mQuo p sn lot C i ∧ mQuo p sn lot C i ≤ 1000000000000001
 sum : (mHad p sn lot C i).sum + mLost p sn lot C i = markS p.rows * 1000000000
 outs : ∀ x : Nat,x < C → (x : Int) ∈ (rds.take i).flatMap Rnd.out → gI (mHad p sn lot C i) x = 0
 step : StepD (meeR C sn p.rows) sn lot (meeS p sn lot i) (meeS p sn lot (i + 1)) r
theorem rndM (h : RankF p seats lot C sn) {i : Nat} (hi : i < (meeS p sn lot C).rounds.length) : RndM p sn lot C i (meeS p sn lot C).rounds[i] (meeS p sn lot C).rounds := by
 obtain ⟨r1,r2,r3⟩ := meeS_round h hi
 have hK := mK_inv h i
 have hv := h.votes
 obtain ⟨r,e1,d⟩ := step_d (R := meeR C sn p.rows) h.lot (meeS_sq h i) r1
 rw [← meeS_step h r1] at e1 d
 rw [r3] at e1
 have e2 : (meeS p sn lot C).rounds[i] = r := List.singleton_inj.1 (List.append_cancel_left e1)
 rw [e2]
 refine ⟨d.had,d.lost,qae _ _,fun x => ?_,?_,h.quoL hK.ok,hadM_sum (RowsM.of h),fun x hx hm => ?_,d⟩
 ·by_cases hx : x < C
  ·rw [mHad, hadM_at ⟨by omega, by omega⟩]
   have := h.hadM hK.ok (x := (x : Int)) ⟨by omega,by omega⟩
   omega
  ·rw [gI_over (by rw [mHad,hadMs,qae];exact hx)];omega
 ·exact h.lostM hK.ok
 ·rw [mHad, hadM_at ⟨by omega, by omega⟩]
  refine hadM_zero ?_
  rw [← r2] at hm
  have h1 := meeS_out h i x hm
  have h2 := conv_le h (meeS_inv h i) (meeS p sn lot i).inn (meeS p sn lot i).el (x : Int)
  have h3 := (hK.ok (x : Int)).1
  unfold mK at h3 ⊢
  omega
end
end
end Go.Proofs.YthcbkhfmdginiaaGreat
