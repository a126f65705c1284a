/- Texts of one claim,put together: ProfP,ProfA,RecP,ProfB,TalP,RowsM,ProfC,ProfD,ProfE. -/
import Derived.Test.YthcbkhfmdginiaaGreatRGSame
import Derived.Test.YthcbkhfmdginiaaGreatRGBal
import Derived.Test.YthcbkhfmdginiaaGreatRGFoot
import Derived.Test.YthcbkhfmdginiaaGreatRGCan
import Derived.Below
import Derived.Laws.CopyOwn

namespace Go.Proofs.YthcbkhfmdginiaaGreat
section

structure Row where
 marks : List Int
 many : Int

def cmpL : List Int → List Int → Int
 | [],[] => 0
 | [],_ :: _ => -1
 | _ :: _,[] => 1
 | x :: xs,y :: ys => if x < y then -1 else if y < x then 1 else cmpL xs ys
theorem cmpL_trans : ∀ {a b c : List Int},cmpL a b < 0 → cmpL b c < 0 → cmpL a c < 0
 | [],[],_,h,_ => by simp [cmpL] at h
 | [],_ :: _,[],_,h => by simp [cmpL] at h
 | [],_ :: _,_ :: _,_,_ => by simp [cmpL]
 | _ :: _,[],_,h,_ => by simp [cmpL] at h
 | _ :: _,_ :: _,[],_,h => by simp [cmpL] at h
 | x :: xs, y :: ys, z :: zs, h, k => by
  rw [cmpL] at h k ⊢
  split at h
  ·split at k
   ·rw [if_pos (by omega)];omega
   ·split at k
    ·omega
    ·rw [if_pos (by omega)];omega
  ·split at h
   ·omega
   ·split at k
    ·rw [if_pos (by omega)];omega
    ·split at k
     ·omega
     ·rw [if_neg (by omega),if_neg (by omega)];exact cmpL_trans h k
def Asc : List Row → Prop
 | [] => True
 | r :: rs => 0 < r.many ∧ (∀ s ∈ rs,cmpL r.marks s.marks < 0) ∧ Asc rs
def cnt : List Row → List Int → Int
 | [],_ => 0
 | r :: rs,m => if r.marks = m then r.many else cnt rs m
def sumR (rs : List Row) : Int := (rs.map Row.many).sum

theorem Asc.many {rs : List Row} (h : Asc rs) : ∀ r ∈ rs,0 < r.many := by
 induction rs with
 | nil => intro r hr;cases hr
 | cons a rs ih =>
  intro r hr
  rcases List.mem_cons.1 hr with rfl | hr
  ·exact h.1
  ·exact ih h.2.2 r hr
theorem sumR_nonneg {rs : List Row} (h : Asc rs) : 0 ≤ sumR rs := by
 induction rs with
 | nil => simp [sumR]
 | cons a rs ih => have := ih h.2.2;have := h.1;simp only [sumR,List.map_cons,List.sum_cons] at *;omega
end

section
open Go Go.RowKit Go.Shelf

def dRow (S : Nat → Prop) (w : World) (cs : List Value) (x : Row) : Prop :=
 ∃ v,cs = [v,.int .i64 x.many] ∧ (Lit.int .i64 x.many).wf = true ∧ RInts S w v x.marks
def RRows (S : Nat → Prop) (w : World) (v : Value) (xs : List Row) : Prop := RSl S 2 (dRow S) w v xs
theorem dRow.stable (S : Nat → Prop) : Stable S (dRow S) := fun _ _ _ _ hs ⟨v,h1,h2,h3⟩ => ⟨v,h1,h2,h3.same hs⟩
theorem RRows.same {S : Nat → Prop} {w w' : World} {v : Value} {xs : List Row} (hs : Same S w w') (h : RRows S w v xs) : RRows S w' v xs := RSl.same (dRow.stable S) hs h
theorem dRow.mono {S T : Nat → Prop} {w : World} {cs : List Value} {x : Row} (hT : ∀ b,S b → T b) (h : dRow S w cs x) : dRow T w cs x :=
 let ⟨v,h1,h2,h3⟩ := h;⟨v,h1,h2,h3.mono hT⟩
theorem RRows.mono {S T : Nat → Prop} {w : World} {v : Value} {xs : List Row} (hT : ∀ b,S b → T b) (h : RRows S w v xs) : RRows T w v xs := RSl.mono (fun _ _ _ h => h.mono hT) hT h
theorem dRow.cut {S : Nat → Prop} {w : World} {cs : List Value} {x : Row} (h : dRow S w cs x) : dRow (Cut S w.heap.size) w cs x := let ⟨v,h1,h2,h3⟩ := h;⟨v,h1,h2,h3.cut⟩
theorem RRows.cut {S : Nat → Prop} {w : World} {v : Value} {xs : List Row} (h : RRows S w v xs) : RRows (Cut S w.heap.size) w v xs := RSl.cut (by omega) (fun _ _ h => h.cut) h
theorem dRow.open {S : Nat → Prop} {w : World} {c d : Value} {x : Row} (h : dRow S w [c,d] x) :
  ∃ a cap,c = .slice a x.marks.length cap ∧ d = .int .i64 x.many ∧ x.marks.length ≤ 140737488355328 ∧ (Lit.int .i64 x.many).wf = true ∧ RInts S w (.slice a x.marks.length cap) x.marks := by
 obtain ⟨v,h1,h2,h3⟩ := h
 simp only [List.cons.injEq,and_true] at h1
 obtain ⟨rfl,rfl⟩ := h1
 obtain ⟨a,cap,hv,_,hl⟩ := RSl.shape h3
 exact ⟨a,cap,hv,rfl,hl,h2,hv ▸ h3⟩
theorem dRow.one (S : Nat → Prop) : OneC (dRow S) := by
 intro w cs x h u hu;obtain ⟨v,rfl,_,hv⟩ := h;simp at hu;rcases hu with rfl | rfl
 ·exact qb6 hv
 ·rfl
structure Prof where
 cands : Int
 kind : Int
 rows : List Row
def VProf (S : Nat → Prop) (w : World) (v : Value) (p : Prof) : Prop := ∃ a c,v = .agg #[.int .i64 p.cands,.int .u8 p.kind,.slice a p.rows.length c] ∧ 0 ≤ p.kind ∧ p.kind ≤ 255 ∧ RRows S w (.slice a p.rows.length c) p.rows
theorem VProf.same {S : Nat → Prop} {w w' : World} {v : Value} {p : Prof} (hs : Same S w w') (h : VProf S w v p) : VProf S w' v p :=
 let ⟨a,c,h1,h2,h3,h4⟩ := h;⟨a,c,h1,h2,h3,h4.same hs⟩
theorem VProf.below {S : Nat → Prop} {w w' : World} {v : Value} {p : Prof} (h : VProf S w v p) (hb : Below w.heap.size w w') : VProf S w' v p := h.same (.of_below hb)
theorem VProf.mono {S T : Nat → Prop} {w : World} {v : Value} {p : Prof} (hT : ∀ b,S b → T b) (h : VProf S w v p) : VProf T w v p :=
 let ⟨a,c,h1,h2,h3,h4⟩ := h;⟨a,c,h1,h2,h3,h4.mono hT⟩

theorem cmpInt (x y : Int) (w : World) : Calls Tryz.prog 188 #[.int .i64 x,.int .i64 y] w fun e w' => e = .returned (.int .i64 (if x < y then -1 else if y < x then 1 else 0)) ∧ w' = w := by
 by_cases h1 : x < y
 ·rw [if_pos h1]
  go_enter Tryz.func188,Tryz.ntmps188
  go_wp2_with (go_at_call 217;refine (isNaN_any _ _).mono ?_;rintro e w1 ⟨rfl,rfl⟩)
  go_ret
  exact ⟨rfl,rfl⟩
 ·rw [if_neg h1]
  by_cases h2 : y < x
  ·rw [if_pos h2]
   go_enter Tryz.func188,Tryz.ntmps188
   go_wp2_with (go_at_call 217;refine (isNaN_any _ _).mono ?_;rintro e w1 ⟨rfl,rfl⟩)
   go_ret
   exact ⟨rfl,rfl⟩
  ·rw [if_neg h2]
   go_enter Tryz.func188,Tryz.ntmps188
   go_wp2_with (go_at_call 217;refine (isNaN_any _ _).mono ?_;rintro e w1 ⟨rfl,rfl⟩)
   go_ret
   exact ⟨rfl,rfl⟩
theorem cmpL_at {xs ys : List Int} {k : Nat} (h1 : k < xs.length) (h2 : k < ys.length) : cmpL (xs.drop k) (ys.drop k) = if xs[k] < ys[k] then -1 else if ys[k] < xs[k] then 1 else cmpL (xs.drop (k + 1)) (ys.drop (k + 1)) := by
 rw [List.drop_eq_getElem_cons h1,List.drop_eq_getElem_cons h2,cmpL]
theorem cmpL_over {xs ys : List Int} {k : Nat} (h1 : k < xs.length) (h2 : ys.length ≤ k) : cmpL (xs.drop k) (ys.drop k) = 1 := by
 rw [List.drop_eq_getElem_cons h1,List.drop_eq_nil_of_le h2];rfl
theorem cmpL_end {xs ys : List Int} {k : Nat} (h1 : xs.length ≤ k) : cmpL (xs.drop k) (ys.drop k) = if k < ys.length then -1 else 0 := by
 rw [List.drop_eq_nil_of_le h1]
 split
 ·rename_i h;rw [List.drop_eq_getElem_cons h];rfl
 ·rename_i h;rw [List.drop_eq_nil_of_le (by omega)];rfl
set_option maxHeartbeats 2000000 in
theorem sliceCmp (S T : Nat → Prop) (u v : Value) (xs ys : List Int) (w : World) (hx : RInts S w u xs) (hy : RInts T w v ys) :
  Calls Tryz.prog 134 #[u,v] w fun e w' => e = .returned (.int .i64 (cmpL xs ys)) ∧ Below w.heap.size w w' := by
 obtain ⟨a1,cap1,rfl,hx1,hx2⟩ := RSl.shape hx
 obtain ⟨a2,cap2,rfl,hy1,hy2⟩ := RSl.shape hy
 go_enter Tryz.func134,Tryz.ntmps134
 go_wp2
 go_loopw [11] (fun i wr => ∃ k : Nat,k ≤ xs.length ∧ k ≤ ys.length ∧ i = .int .i64 k ∧ Hid (cmpL xs ys = cmpL (xs.drop k) (ys.drop k)) ∧ Below w.heap.size w wr) (fun i _ => xs.length - (intOf i).toNat)
 case atStart => exact ⟨0,Nat.zero_le _,Nat.zero_le _,rfl,Lib.hid (by simp),Below.refl _ _⟩
 case round =>
  obtain ⟨k,hk,hk2,rfl,hg,hb⟩ := hrel
  by_cases hlt : k < xs.length
  ·obtain ⟨b, off, c, rfl, hS, hbw, hc, hdx⟩ := RSl.at1 (hx.same (.of_below hb)) k hlt
   obtain ⟨rfl,-⟩ := hdx.open
   by_cases hlt2 : k < ys.length
   ·obtain ⟨b2, off2, c2, rfl, hS2, hbw2, hc2, hdy⟩ := RSl.at1 (hy.same (.of_below hb)) k hlt2
    obtain ⟨rfl,-⟩ := hdy.open
    have hst := cmpL_at hlt hlt2
    rw [← hg.out] at hst
    have hC := cmpInt xs[k] ys[k]
    by_cases h1 : xs[k] < ys[k]
    ·rw [if_pos h1] at hst
     have hC' := fun W => (hC W).mono (fun e w' (h : _ ∧ _) => (show e = .returned (.int .i64 (-1)) ∧ w' = W from by rw [if_pos h1] at h;exact h))
     have HC := Lib.hid hC';have Hst := Lib.hid hst
     clear hC hC' hst h1
     go_wp2_with (go_at_call 188;refine (HC.out _).mono ?_;rintro e w1 ⟨rfl,rfl⟩)
     go_ret
     exact ⟨qac Hst.out.symm,hb⟩
    ·rw [if_neg h1] at hst
     by_cases h2 : ys[k] < xs[k]
     ·rw [if_pos h2] at hst
      have hC' := fun W => (hC W).mono (fun e w' (h : _ ∧ _) => (show e = .returned (.int .i64 1) ∧ w' = W from by rw [if_neg h1,if_pos h2] at h;exact h))
      have HC := Lib.hid hC';have Hst := Lib.hid hst
      clear hC hC' hst h1 h2
      go_wp2_with (go_at_call 188;refine (HC.out _).mono ?_;rintro e w1 ⟨rfl,rfl⟩)
      go_ret
      exact ⟨qac Hst.out.symm,hb⟩
     ·rw [if_neg h2] at hst
      have hC' := fun W => (hC W).mono (fun e w' (h : _ ∧ _) => (show e = .returned (.int .i64 0) ∧ w' = W from by rw [if_neg h1,if_neg h2] at h;exact h))
      have HC := Lib.hid hC';have Hst := Lib.hid hst
      clear hC hC' hst h1 h2
      go_wp2_with (go_at_call 188;refine (HC.out _).mono ?_;rintro e w1 ⟨rfl,rfl⟩)
      exact ⟨⟨k + 1,by omega,by omega,by go_num,Hst,hb⟩,by simp [intOf];omega⟩
   ·have hst := hg.out.trans (cmpL_over hlt (by omega))
    have Hst := Lib.hid hst
    clear hst
    go_wp2
    go_ret
    exact ⟨qac Hst.out.symm,hb⟩
  ·have hk' : k = xs.length := by omega
   have hst := hg.out.trans (cmpL_end (by omega))
   by_cases h1 : k < ys.length
   ·rw [if_pos h1] at hst
    have Hst := Lib.hid hst
    subst hk'
    clear hst
    go_wp2
    go_ret
    exact ⟨qac Hst.out.symm,hb⟩
   ·rw [if_neg h1] at hst
    have Hst := Lib.hid hst
    subst hk'
    clear hst
    go_wp2
    go_ret
    exact ⟨qac Hst.out.symm,hb⟩

end

section
open Go Go.RowKit Go.Shelf

theorem len_le_of_nodup {α : Type} [DecidableEq α] : ∀ {a b : List α},a.Nodup → (∀ x ∈ a,x ∈ b) → a.length ≤ b.length
 | [],_,_,_ => Nat.zero_le _
 | x :: a,b,hn,hs => by
  rw [List.nodup_cons] at hn
  have hx := hs x (List.mem_cons_self ..)
  have h1 := List.length_erase_of_mem hx
  have h2 := len_le_of_nodup (b := b.erase x) hn.2 fun y hy => (List.mem_erase_of_ne (fun (e : y = x) => hn.1 (e ▸ hy))).2 (hs y (List.mem_cons_of_mem _ hy))
  have h3 := List.length_pos_of_mem hx
  simp only [List.length_cons]
  omega
end

section
open Go Go.RowKit Go.Shelf

def zR : Row := ⟨[],0⟩
def okRow (rows : List Row) (c kind : Int) (i : Nat) : Bool := match rows[i]? with
 | some r => (decide (i = 0) || decide (cmpL (rows.getD (i - 1) zR).marks r.marks < 0)) && (decide (0 < r.many) && decide (checkB ⟨kind,r.marks⟩ c = 0))
 | none => true
def fineP (p : Prof) : Bool := (List.range p.rows.length).all (okRow p.rows p.cands p.kind)
def newOk (c kind : Int) : Bool := decide (1 ≤ c ∧ c ≤ 10 ∧ 1 ≤ kind ∧ kind ≤ 3)
def chkP (p : Prof) : Int := if 64 < p.rows.length then 9 else if fineP p && newOk p.cands p.kind then (if 1000000 < sumR p.rows then 4 else 0) else 8
theorem okRow_at {rows : List Row} {c kind : Int} {i : Nat} (hi : i < rows.length) : okRow rows c kind i = ((decide (i = 0) || decide (cmpL (rows.getD (i - 1) zR).marks rows[i].marks < 0)) && (decide (0 < rows[i].many) && decide (checkB ⟨kind,rows[i].marks⟩ c = 0))) := by
 rw [okRow,List.getElem?_eq_getElem hi]
theorem asc_of : ∀ {rows : List Row},(∀ r ∈ rows,0 < r.many) → (∀ i (h : i + 1 < rows.length),cmpL rows[i].marks rows[i + 1].marks < 0) → Asc rows
 | [],_,_ => trivial
 | [a],h1,_ => ⟨h1 a (by simp),fun s hs => (List.not_mem_nil hs).elim,trivial⟩
 | a :: b :: rs,h1,h2 => by
  have ih := asc_of (rows := b :: rs) (fun r hr => h1 r (List.mem_cons_of_mem _ hr)) fun i h => h2 (i + 1) (by simpa using h)
  have h0 : cmpL a.marks b.marks < 0 := h2 0 (by simp)
  refine ⟨h1 a (by simp),fun s hs => ?_,ih⟩
  rcases List.mem_cons.1 hs with rfl | hs
  ·exact h0
  ·exact cmpL_trans h0 (ih.2.1 s hs)
theorem asc_get {rows : List Row} (h : Asc rows) : ∀ i (hi : i + 1 < rows.length),cmpL rows[i].marks rows[i + 1].marks < 0 := by
 induction rows with
 | nil => intro i hi;simp at hi
 | cons a rs ih =>
  intro i hi
  match i with
  | 0 => exact h.2.1 _ (List.getElem_mem (by simpa using hi))
  | i + 1 => exact ih h.2.2 i (by simpa using hi)
theorem fineP_iff {p : Prof} : fineP p = true ↔ Asc p.rows ∧ ∀ r ∈ p.rows,checkB ⟨p.kind,r.marks⟩ p.cands = 0 := by
 unfold fineP
 rw [List.all_eq_true]
 constructor
 ·intro h
  have h' : ∀ i (hi : i < p.rows.length),(i = 0 ∨ cmpL (p.rows.getD (i - 1) zR).marks p.rows[i].marks < 0) ∧ 0 < p.rows[i].many ∧ checkB ⟨p.kind,p.rows[i].marks⟩ p.cands = 0 := fun i hi => by
   have := h i (List.mem_range.2 hi)
   rw [okRow_at hi] at this
   simpa using this
  refine ⟨asc_of (fun r hr => ?_) (fun i hi => ?_),fun r hr => ?_⟩
  ·obtain ⟨i,hi,rfl⟩ := List.getElem_of_mem hr;exact (h' i hi).2.1
  ·rcases (h' (i + 1) hi).1 with e | e
   ·omega
   ·rwa [Nat.add_sub_cancel,getD_at zR (by omega)] at e
  ·obtain ⟨i,hi,rfl⟩ := List.getElem_of_mem hr;exact (h' i hi).2.2
 ·rintro ⟨h1, h2⟩ i hi
  have hi := List.mem_range.1 hi
  rw [okRow_at hi]
  simp only [Bool.and_eq_true,Bool.or_eq_true,decide_eq_true_eq]
  refine ⟨?_,h1.many _ (List.getElem_mem hi),h2 _ (List.getElem_mem hi)⟩
  match i with
  | 0 => exact .inl rfl
  | i + 1 => refine .inr ?_;rw [Nat.add_sub_cancel,getD_at zR (by omega)];exact asc_get h1 i hi
theorem newOk_iff {c kind : Int} : newOk c kind = true ↔ 1 ≤ c ∧ c ≤ 10 ∧ 1 ≤ kind ∧ kind ≤ 3 := by simp [newOk]
structure Valid (p : Prof) : Prop where
 rows : p.rows.length ≤ 64
 asc : Asc p.rows
 fit : ∀ r ∈ p.rows,checkB ⟨p.kind,r.marks⟩ p.cands = 0
 new : 1 ≤ p.cands ∧ p.cands ≤ 10 ∧ 1 ≤ p.kind ∧ p.kind ≤ 3
 sum : sumR p.rows ≤ 1000000
theorem chkP_zero {p : Prof} : chkP p = 0 ↔ Valid p := by
 unfold chkP
 constructor
 ·intro h
  split at h
  ·omega
  ·split at h
   ·rename_i h1 h2
    rw [Bool.and_eq_true,fineP_iff,newOk_iff] at h2
    split at h
    ·omega
    ·exact ⟨by omega,h2.1.1,h2.1.2,h2.2,by omega⟩
   ·omega
 ·rintro ⟨h1, h2, h3, h4, h5⟩
  rw [if_neg (by omega),if_pos (by rw [Bool.and_eq_true,fineP_iff,newOk_iff];exact ⟨⟨h2,h3⟩,h4⟩),if_neg (by omega)]
def noP : Prof := ⟨0,0,[]⟩
theorem checkB_marks {x : Blt} {c : Int} (h : checkB x c = 0) : x.marks.length ≤ 10 ∧ ∀ m ∈ x.marks,0 ≤ m ∧ m ≤ 10 := by
 unfold checkB at h
 split at h
 ·rename_i hc
  split at h
  ·rename_i hf
   have hin : ∀ {c : Int} {l : List Int},inB c l = true → ∀ m ∈ l,0 ≤ m ∧ m < c := fun h m hm => by
    have := List.all_eq_true.1 h m hm
    simpa using this
   have hle : ∀ l : List Int,inB c l = true → onceB l = true → l.length ≤ 10 := by
    intro l h1 h2
    have hn : l.Nodup := of_decide_eq_true h2
    have hn2 : (l.map Int.toNat).Nodup := by
     rw [List.Nodup,List.pairwise_iff_getElem]
     intro i j hi hj hij
     simp only [List.getElem_map]
     simp only [List.length_map] at hi hj
     rw [List.Nodup,List.pairwise_iff_getElem] at hn
     have := hn i j hi hj hij
     have a1 := hin h1 _ (List.getElem_mem hi)
     have a2 := hin h1 _ (List.getElem_mem hj)
     omega
    have := len_le_of_nodup hn2 (b := List.range 10) fun x hx => by
     obtain ⟨m,hm,rfl⟩ := List.mem_map.1 hx
     have := hin h1 m hm
     rw [List.mem_range];omega
    simpa using this
   unfold fineB at hf
   split at hf
   ·rw [Bool.and_eq_true, decide_eq_true_eq] at hf
    exact ⟨by omega,fun m hm => by have := hin hf.1 m hm;omega⟩
   ·split at hf
    ·simp only [Bool.and_eq_true] at hf
     exact ⟨hle _ hf.1 hf.2.2,fun m hm => by have := hin hf.1 m hm;omega⟩
    ·split at hf
     ·simp only [Bool.and_eq_true] at hf
      exact ⟨hle _ hf.1 hf.2,fun m hm => by have := hin hf.1 m hm;omega⟩
     ·cases hf
  ·omega
 ·omega
theorem Valid.marks {p : Prof} (h : Valid p) : ∀ r ∈ p.rows,r.marks.length ≤ 10 := fun r hr => (checkB_marks (h.fit r hr)).1
end

section
open Go Go.RowKit Go.Shelf

def RgT (T : Nat → Prop) (w : World) (v : Value) : Nat → Prop := fun b => T b ∧ b < w.heap.size ∧ some b ≠ v.ownBlock
def OwnT (T : Nat → Prop) (base : Nat) (w : World) (v : Value) (rows : List Row) : Prop := Own base 66 2 (dRow (RgT T w v)) w v rows
theorem OwnT.nil (T : Nat → Prop) (base : Nat) (w : World) : OwnT T base w (.slice none 0 0) [] := Own.nil _ _ _ _ _
theorem OwnT.mono {T U : Nat → Prop} {base : Nat} {w : World} {v : Value} {rows : List Row} (hT : ∀ b,T b → U b) (h : OwnT T base w v rows) : OwnT U base w v rows := Own.dmono (fun _ _ hd => dRow.mono (fun b hb => ⟨hT b hb.1,hb.2⟩) hd) h
theorem OwnT.kept {T : Nat → Prop} {base : Nat} {w w' : World} {v : Value} {rows : List Row} {row : Option Nat} (h : OwnT T base w v rows) (hg : w.grownBy w' row) (hne : v.ownBlock = none ∨ v.ownBlock ≠ row)
  (hS : ∀ b,T b → b < w.heap.size → w'.heap[b]? = w.heap[b]?) : OwnT T base w' v rows :=
 Own.dmono (fun _ _ hd => dRow.mono (fun _ hb => ⟨hb.1,Nat.lt_of_lt_of_le hb.2.1 hg.size,hb.2.2⟩) hd) (Own.kept (dRow.stable (RgT T w v)) h hg hne (fun b hb hs => hS b hs.1 hb))
theorem OwnT.below {T : Nat → Prop} {base : Nat} {w w' : World} {v : Value} {rows : List Row} (h : OwnT T base w v rows) (hb : Below w.heap.size w w') : OwnT T base w' v rows :=
 h.kept (qan hb) (by cases v.ownBlock <;> simp) (fun _ _ hlt => hb.block _ hlt)
theorem OwnT.setCell {T : Nat → Prop} {base : Nat} {w : World} {v : Value} {rows : List Row} (h : OwnT T base w v rows) {g : Nat} (hT : ¬ T g) (hne : some g ≠ v.ownBlock) (o : Nat) (u : Value) : OwnT T base (w.setCell ⟨g,o,none⟩ u) v rows :=
 h.kept (gb_setCell w g o u) (.inr fun e => hne e.symm) (fun b hb _ => Below.heap_setCell w ⟨g,o,none⟩ u b (fun e => hT (by rw [show g = b from e.symm];exact hb)))
theorem OwnT.rsl {T : Nat → Prop} {base : Nat} {w : World} {v : Value} {rows : List Row} (h : OwnT T base w v rows) (hl : rows.length ≤ 140737488355328) : RRows Any w v rows :=
 RSl.mono (fun _ _ _ hd => dRow.mono (fun _ _ => trivial) hd) (fun _ _ => trivial) (Own.rsl h hl)
theorem OwnT.shape {T : Nat → Prop} {base : Nat} {w : World} {v : Value} {rows : List Row} (h : OwnT T base w v rows) : ∃ a cap,v = .slice a rows.length cap := Own.shape h
theorem OwnT.cells {T : Nat → Prop} {base : Nat} {w : World} {g n cap : Nat} {rows : List Row} (h : OwnT T base w (.slice (some ⟨g,0,none⟩) n cap) rows) :
  ∃ cur L : List Value,w.heap[g]? = some (.cells cur.toArray 66 (0,0)) ∧ base ≤ g ∧ rows.length ≤ cap ∧ cap ≤ maxLen ∧ cur.length = cap * 2 ∧ cur.take (rows.length * 2) = L ∧ Dec 2 (dRow (RgT T w (.slice (some ⟨g,0,none⟩) n cap))) w L rows ∧ n = rows.length := by
 obtain ⟨cells,ho,hd⟩ := h
 rcases ho.2 with ⟨h1,h0⟩ | ⟨g',cap',cur,h1,h2,h3,h4,h5,h6,h7⟩
 ·cases h1
 simp only [Value.slice.injEq,Option.some.injEq,Addr.mk.injEq,and_true] at h1
 obtain ⟨rfl,hn,rfl⟩ := h1
 exact ⟨cur.toList,cells,by simpa using h3,h2,h4,h5,by simpa using h6,h7,hd,hn⟩

theorem Dec.take {α : Type} {n : Nat} {dec : World → List Value → α → Prop} {w : World} {cells : List Value} {xs : List α} (h : Dec n dec w cells xs) {k : Nat} (hk : k ≤ xs.length) : Dec n dec w (cells.take (k * n)) (xs.take k) := by
 refine ⟨?_,fun i hi => ?_⟩
 ·rw [List.length_take,List.length_take,h.1,Nat.min_eq_left hk,Nat.min_eq_left (Nat.mul_le_mul_right n hk)]
 ·rw [List.length_take, Nat.min_eq_left hk] at hi
  have h1 : (i + 1) * n ≤ k * n := Nat.mul_le_mul_right n hi
  rw [Nat.add_mul,Nat.one_mul] at h1
  rw [List.getElem_take,List.drop_take,List.take_take,Nat.min_eq_left (by omega)]
  exact h.2 i (by omega)
theorem Dec.drop {α : Type} {n : Nat} {dec : World → List Value → α → Prop} {w : World} {cells : List Value} {xs : List α} (h : Dec n dec w cells xs) {k : Nat} (hk : k ≤ xs.length) : Dec n dec w (cells.drop (k * n)) (xs.drop k) := by
 refine ⟨?_,fun i hi => ?_⟩
 ·rw [List.length_drop,List.length_drop,h.1,Nat.sub_mul]
 ·rw [List.length_drop] at hi
  rw [List.getElem_drop,List.drop_drop,← Nat.add_mul]
  exact h.2 (k + i) (by omega)
theorem Dec.dmono {α : Type} {n : Nat} {d d' : World → List Value → α → Prop} {w w' : World} {cells : List Value} {xs : List α} (hd : ∀ cs x,d w cs x → d' w' cs x) (h : Dec n d w cells xs) : Dec n d' w' cells xs := ⟨h.1,fun i hi => hd _ _ (h.2 i hi)⟩
end

section
open Go Go.RowKit Go.Shelf

theorem profNew_bad (c kind : Int) (w : World) (hbad : newOk c kind = false) :
  Calls Tryz.prog 136 #[.int .i64 c,.int .u8 kind] w fun e w' => e = .returned (.tuple #[.agg #[.int .i64 0,.int .u8 0,.slice none 0 0],.int .i64 2]) ∧ Below w.heap.size w w' := by
 have hbad' : ¬ (1 ≤ c ∧ c ≤ 10 ∧ 1 ≤ kind ∧ kind ≤ 3) := by simpa [newOk] using hbad
 have hways : c < 1 ∨ (¬ c < 1 ∧ 10 < c) ∨ (¬ c < 1 ∧ ¬ 10 < c ∧ kind < 1) ∨ (¬ c < 1 ∧ ¬ 10 < c ∧ ¬ kind < 1 ∧ 3 < kind) := by omega
 clear hbad hbad'
 rcases hways with h1 | ⟨h1,h2⟩ | ⟨h1,h2,h3⟩ | ⟨h1,h2,h3,h4⟩
 all_goals
  go_enter Tryz.func136,Tryz.ntmps136
  go_wp2
  exact bodyPost_ret (v := .tuple #[.agg #[.int .i64 0,.int .u8 0,.slice none 0 0],.int .i64 2]) (by simp [results,Tryz.results136,go_sem]) rfl ⟨rfl,qa1 _ _⟩
theorem profNew_ok (c kind : Int) (w : World) (hok : newOk c kind = true) :
  Calls Tryz.prog 136 #[.int .i64 c,.int .u8 kind] w fun e w' => e = .returned (.tuple #[.agg #[.int .i64 c,.int .u8 kind,.slice none 0 0],.int .i64 0]) ∧ Below w.heap.size w w' := by
 obtain ⟨h1,h2,h3,h4⟩ : ¬ c < 1 ∧ ¬ 10 < c ∧ ¬ kind < 1 ∧ ¬ 3 < kind := by have := newOk_iff.1 hok;omega
 clear hok
 go_enter Tryz.func136,Tryz.ntmps136
 go_wp2
 exact bodyPost_ret (v := .tuple #[.agg #[.int .i64 c,.int .u8 kind,.slice none 0 0],.int .i64 0]) (by simp [results,Tryz.results136,go_sem]) rfl ⟨rfl,qa1 _ _⟩
def newI (c kind : Int) : Int := if newOk c kind then 0 else 2
def newP (c kind : Int) : Prof := if newOk c kind then ⟨c,kind,[]⟩ else noP
theorem profNew (c kind : Int) (w : World) : Calls Tryz.prog 136 #[.int .i64 c,.int .u8 kind] w fun e w' => e = .returned (.tuple #[.agg #[.int .i64 (newP c kind).cands,.int .u8 (newP c kind).kind,.slice none 0 0],.int .i64 (newI c kind)]) ∧ Below w.heap.size w w' := by
 unfold newP newI
 cases h : newOk c kind
 ·exact profNew_bad c kind w h
 ·exact profNew_ok c kind w h
theorem profOf (c kind many : Int) (a1 a2 : Option Addr) (n1 c1 n2 c2 : Nat) (w : World) : Calls Tryz.prog 135 #[.agg #[.int .i64 c,.int .u8 kind,.slice a1 n1 c1],.agg #[.slice a2 n2 c2,.int .i64 many]] w fun e w' => e = .returned (.agg #[.int .u8 kind,.slice a2 n2 c2]) ∧ Below w.heap.size w w' := by
 go_enter Tryz.func135,Tryz.ntmps135
 go_wp2
 exact bodyPost_ret (v := .agg #[.int .u8 kind,.slice a2 n2 c2]) (by simp [results,Tryz.results135,go_sem]) rfl ⟨rfl,((qa1 w _).alloc (by simp) _).alloc (by simp;omega) _⟩
end

section
open Go Go.RowKit Go.Shelf

def b1 (fst : Bool) (last x : Row) (kind c : Int) : Bool := (fst || decide (cmpL last.marks x.marks < 0)) && (decide (0 < x.many) && decide (checkB ⟨kind,x.marks⟩ c = 0))
def Chk1Gives (base bF bS bP : Nat) (r : Bool) (s : Int) (w : World) (e : Ending) (w' : World) : Prop :=
 e = .returned (.bool r) ∧ Below base w w' ∧ w'.heap[bP]? = w.heap[bP]? ∧
  (r = true → w'.heap[bF]? = some (.cells #[.bool false] 4 (0,0)) ∧ w'.heap[bS]? = some (.cells #[.int .i64 s] 3 (0,0)))
theorem min_min {s m : Int} (h0 : 0 ≤ s) (_h1 : s ≤ 1000001) : min (s + min m 1000001) 1000001 = min (s + m) 1000001 := by omega
structure Stored (base bF bS bP : Nat) (s c kind : Int) (a1 : Option Addr) (n1 c1 : Nat) (xc d2 : Value) (w V : World) : Prop where
 below : Below base w V
 hP : V.heap[bP]? = w.heap[bP]?
 hP2 : V.heap[bP]? = some (.cells #[.int .i64 c,.int .u8 kind,.slice a1 n1 c1] 24 (0,0))
 hF : V.heap[bF]? = some (.cells #[.bool false] 4 (0,0))
 hS : V.heap[bS]? = some (.cells #[.int .i64 s] 3 (0,0))
 hx : V.heap[w.heap.size + 1]? = some (.cells #[xc,d2] 66 (0,0))
theorem Stored.fin {base bF bS bP : Nat} {s c kind : Int} {a1 : Option Addr} {n1 c1 : Nat} {xc d2 : Value} {w V : World} (k : Stored base bF bS bP s c kind a1 n1 c1 xc d2 w V) (hbase : base ≤ w.heap.size) (p : Ex) :
  Below base w (ext V p) ∧ ∀ r,Chk1Gives base bF bS bP r s w (.returned (.bool r)) (ext V p) := by
 have hx := qa4 V p
 have hz := k.below.size
 have hb := k.below.trans (hx.mono (by omega))
 exact ⟨hb,fun r => ⟨rfl,hb,(hx.block bP (qa0 k.hP2)).trans k.hP,fun _ => ⟨(hx.block bF (qa0 k.hF)).trans k.hF,(hx.block bS (qa0 k.hS)).trans k.hS⟩⟩⟩
theorem Stored.cells {base bF bS bP : Nat} {s c kind : Int} {a1 : Option Addr} {n1 c1 : Nat} {xc d2 : Value} {w V : World} (k : Stored base bF bS bP s c kind a1 n1 c1 xc d2 w V) (p : Ex) :
  (ext V p).cell? ⟨w.heap.size + 1,0,none⟩ = some xc ∧ (ext V p).cell? ⟨w.heap.size + 1,1,none⟩ = some d2 ∧ (ext V p).cell? ⟨bP,0,none⟩ = some (.int .i64 c) ∧ (ext V p).cell? ⟨bP,1,none⟩ = some (.int .u8 kind) ∧ (ext V p).cell? ⟨bP,2,none⟩ = some (.slice a1 n1 c1) :=
 ⟨qa7 ((qa6 (Below.refl _ V) (qa0 k.hx) k.hx).2.1 0) p,qa7 ((qa6 (Below.refl _ V) (qa0 k.hx) k.hx).2.1 1) p,qa7 ((qa6 (Below.refl _ V) (qa0 k.hP2) k.hP2).2.1 0) p,qa7 ((qa6 (Below.refl _ V) (qa0 k.hP2) k.hP2).2.1 1) p,qa7 ((qa6 (Below.refl _ V) (qa0 k.hP2) k.hP2).2.1 2) p⟩
set_option maxHeartbeats 4000000 in
set_option maxRecDepth 100000 in
theorem check1P (S : Nat → Prop) (base bF bS bP : Nat) (fst : Bool) (sm c kind : Int) (a1 : Option Addr) (n1 c1 : Nat) (c0 d0 c2 d2 : Value) (last x : Row) (w : World)
  (hF : w.heap[bF]? = some (.cells #[.bool fst] 4 (0,0))) (hS : w.heap[bS]? = some (.cells #[.int .i64 sm] 3 (0,0))) (hP : w.heap[bP]? = some (.cells #[.int .i64 c,.int .u8 kind,.slice a1 n1 c1] 24 (0,0)))
  (hne : bF ≠ bS ∧ bF ≠ bP ∧ bS ≠ bP) (hbase : base ≤ bF ∧ base ≤ bS ∧ base ≤ w.heap.size) (hsm : 0 ≤ sm ∧ sm ≤ 1000001) (hk : 0 ≤ kind ∧ kind ≤ 255) (hT : ∀ b,S b → b < base) (hl : dRow S w [c0,d0] last) (hx : dRow S w [c2,d2] x) :
  Calls Tryz.prog 133 #[.agg #[c0,d0],.agg #[c2,d2],.pointer (some ⟨bF,0,none⟩),.pointer (some ⟨bS,0,none⟩),.pointer (some ⟨bP,0,none⟩)] w (Chk1Gives base bF bS bP (b1 fst last x kind c) (min (sm + x.many) 1000001) w) := by
 obtain ⟨aL,capL,rfl,rfl,hlL,hwL,hIL⟩ := hl.open
 obtain ⟨aX,capX,rfl,rfl,hlX,hwX,hIX⟩ := hx.open
 have hlt := qa0 hF;have hltS := qa0 hS;have hltP := qa0 hP
 obtain ⟨w0,hw0⟩ : ∃ w0,w0 = (w.alloc (.cells #[.slice aL last.marks.length capL,.int .i64 last.many] 66)).alloc (.cells #[.slice aX x.marks.length capX,.int .i64 x.many] 66) := ⟨_,rfl⟩
 have hb0 : Below w.heap.size w w0 := by rw [hw0];exact (qa1 w _).alloc (by simp) _
 have hz0 : w0.heap.size = w.heap.size + 2 := by rw [hw0];simp
 have g0 : w0.heap[w.heap.size]? = some (.cells #[.slice aL last.marks.length capL,.int .i64 last.many] 66 (0,0)) := by rw [hw0];exact qay _ (qa8 _ _)
 have g1 : w0.heap[w.heap.size + 1]? = some (.cells #[.slice aX x.marks.length capX,.int .i64 x.many] 66 (0,0)) := by
  rw [hw0]
  have := qa8 (w.alloc (.cells #[.slice aL last.marks.length capL,.int .i64 last.many] 66)) (.cells #[.slice aX x.marks.length capX,.int .i64 x.many] 66)
  rwa [World.size_alloc] at this
 -- what is known of every world behind w0
 have hK : ∀ W,Below w0.heap.size w0 W → (∀ i,W.cell? ⟨w.heap.size,i,none⟩ = (#[.slice aL last.marks.length capL,.int .i64 last.many] : Array Value)[i]?) ∧ (∀ i,W.cell? ⟨w.heap.size + 1,i,none⟩ = (#[.slice aX x.marks.length capX,.int .i64 x.many] : Array Value)[i]?) ∧
   W.cell? ⟨bF,0,none⟩ = some (.bool fst) ∧ W.cell? ⟨bS,0,none⟩ = some (.int .i64 sm) ∧ (∀ i,W.cell? ⟨bP,i,none⟩ = (#[.int .i64 c,.int .u8 kind,.slice a1 n1 c1] : Array Value)[i]?) ∧ W.frozen? ⟨bF,0,none⟩ = false ∧ W.frozen? ⟨bS,0,none⟩ = false := fun W hW => by
  have q0 := qa6 hW (by omega) g0
  have q1 := qa6 hW (by omega) g1
  have hb := hb0.trans (hW.mono (by omega))
  have q2 := qa6 hb hlt hF
  have q3 := qa6 hb hltS hS
  have q4 := qa6 hb hltP hP
  exact ⟨q0.2.1,q1.2.1,q2.2.1 0,q3.2.1 0,q4.2.1,q2.2.2 0,q3.2.2 0⟩
 have hKw : w.cell? ⟨bF,0,none⟩ = some (.bool fst) ∧ w.cell? ⟨bS,0,none⟩ = some (.int .i64 sm) ∧ (∀ i,w.cell? ⟨bP,i,none⟩ = (#[.int .i64 c,.int .u8 kind,.slice a1 n1 c1] : Array Value)[i]?) ∧ w.frozen? ⟨bF,0,none⟩ = false ∧ w.frozen? ⟨bS,0,none⟩ = false := by
  have q2 := qa6 (Below.refl _ w) hlt hF
  have q3 := qa6 (Below.refl _ w) hltS hS
  have q4 := qa6 (Below.refl _ w) hltP hP
  exact ⟨q2.2.1 0,q3.2.1 0,q4.2.1,q2.2.2 0,q3.2.2 0⟩
 have HKw := Lib.hid hKw
 clear hKw
 have hC := sliceCmp S S _ _ _ _ w0 (hIL.same (.of_below hb0)) (hIX.same (.of_below hb0))
 have hB : ∀ W',Below base w W' → Calls Tryz.prog 91 #[.agg #[.int .u8 kind,.slice aX x.marks.length capX],.int .i64 c] W' fun e w' => e = .returned (.int .i64 (checkB ⟨kind,x.marks⟩ c)) ∧ Below W'.heap.size W' w' := fun W' hW' =>
  ballotCheck S _ ⟨kind,x.marks⟩ c W' ⟨_,_,rfl,⟨_,rfl,hk.1,hk.2,hIX.same (fun b _ hs => hW'.block b (hT b hs))⟩⟩
 -- the end of a round that goes through
 have hV1 : Stored base bF bS bP (min (sm + min x.many 1000001) 1000001) c kind a1 n1 c1 (.slice aX x.marks.length capX) (.int .i64 x.many) w
   ((((w.setCell ⟨bF,0,none⟩ (.bool false)).setCell ⟨bS,0,none⟩ (.int .i64 (min (sm + min x.many 1000001) 1000001))).alloc (.cells #[.slice aL last.marks.length capL,.int .i64 last.many] 66)).alloc (.cells #[.slice aX x.marks.length capX,.int .i64 x.many] 66)) := by
  have z1 : ((w.setCell ⟨bF,0,none⟩ (.bool false)).setCell ⟨bS,0,none⟩ (.int .i64 (min (sm + min x.many 1000001) 1000001))).heap.size = w.heap.size := by simp [World.setCell]
  have kb : Below base w ((w.setCell ⟨bF,0,none⟩ (.bool false)).setCell ⟨bS,0,none⟩ (.int .i64 (min (sm + min x.many 1000001) 1000001))) := ((Below.refl base w).setCell (p := ⟨bF,0,none⟩) hbase.1 _).setCell (p := ⟨bS,0,none⟩) hbase.2.1 _
  have kP : ((w.setCell ⟨bF,0,none⟩ (.bool false)).setCell ⟨bS,0,none⟩ (.int .i64 (min (sm + min x.many 1000001) 1000001))).heap[bP]? = w.heap[bP]? :=
   (Below.heap_setCell _ _ _ _ (by simp;omega)).trans (Below.heap_setCell _ _ _ _ (by simp;omega))
  have kF : ((w.setCell ⟨bF,0,none⟩ (.bool false)).setCell ⟨bS,0,none⟩ (.int .i64 (min (sm + min x.many 1000001) 1000001))).heap[bF]? = some (.cells #[.bool false] 4 (0,0)) :=
   (Below.heap_setCell _ _ _ _ (by simp;omega)).trans (qa2 hF _)
  have kS : ((w.setCell ⟨bF,0,none⟩ (.bool false)).setCell ⟨bS,0,none⟩ (.int .i64 (min (sm + min x.many 1000001) 1000001))).heap[bS]? = some (.cells #[.int .i64 (min (sm + min x.many 1000001) 1000001)] 3 (0,0)) :=
   qa2 (o := 0) ((Below.heap_setCell w ⟨bF,0,none⟩ (.bool false) bS (by simp;omega)).trans hS) _
  generalize (w.setCell ⟨bF,0,none⟩ (.bool false)).setCell ⟨bS,0,none⟩ (.int .i64 (min (sm + min x.many 1000001) 1000001)) = V at *
  refine ⟨(kb.alloc (by omega) _).alloc (by simp;omega) _,?_,?_,qay _ (qay _ kF),qay _ (qay _ kS),?_⟩
  ·rw [qay _ (qay _ (kP.trans hP)),hP]
  ·exact qay _ (qay _ (kP.trans hP))
  ·have := qa8 (V.alloc (.cells #[.slice aL last.marks.length capL, .int .i64 last.many] 66)) (.cells #[.slice aX x.marks.length capX, .int .i64 x.many] 66)
   rwa [World.size_alloc,z1] at this
 have hV2 : ∀ W,Below w0.heap.size w0 W → Stored base bF bS bP (min (sm + min x.many 1000001) 1000001) c kind a1 n1 c1 (.slice aX x.marks.length capX) (.int .i64 x.many) w
   ((W.setCell ⟨bF,0,none⟩ (.bool false)).setCell ⟨bS,0,none⟩ (.int .i64 (min (sm + min x.many 1000001) 1000001))) := fun W hW => by
  have hb := hb0.trans (hW.mono (by omega))
  have kP : ((W.setCell ⟨bF,0,none⟩ (.bool false)).setCell ⟨bS,0,none⟩ (.int .i64 (min (sm + min x.many 1000001) 1000001))).heap[bP]? = w.heap[bP]? :=
   (Below.heap_setCell _ _ _ _ (by simp;omega)).trans ((Below.heap_setCell _ _ _ _ (by simp;omega)).trans (hb.block bP hltP))
  refine ⟨((hb.mono hbase.2.2).setCell (p := ⟨bF,0,none⟩) hbase.1 _).setCell (p := ⟨bS,0,none⟩) hbase.2.1 _,kP,kP.trans hP,?_,?_,?_⟩
  ·exact (Below.heap_setCell _ _ _ _ (by simp;omega)).trans (qa2 ((hb.block bF hlt).trans hF) _)
  ·exact qa2 (o := 0) ((Below.heap_setCell W ⟨bF,0,none⟩ (.bool false) bS (by simp;omega)).trans ((hb.block bS hltS).trans hS)) _
  ·exact (Below.heap_setCell _ _ _ _ (by simp;omega)).trans ((Below.heap_setCell _ _ _ _ (by simp;omega)).trans ((hW.block _ (by omega)).trans g1))
 rw [show min (sm + x.many) 1000001 = min (sm + min x.many 1000001) 1000001 from (min_min hsm.1 hsm.2).symm]
 have hBad : ∀ W,Below w0.heap.size w0 W → Chk1Gives base bF bS bP false (min (sm + min x.many 1000001) 1000001) w (.returned (.bool false)) W := fun W hW => by
  have hb := hb0.trans (hW.mono (by omega))
  exact ⟨rfl,hb.mono hbase.2.2,hb.block bP hltP,fun h => by cases h⟩
 have hO := fun W => profOf c kind x.many a1 aX n1 c1 x.marks.length capX W
 have hcase : (fst = false ∧ (0 ≤ cmpL last.marks x.marks)) ∨ ((fst = true ∨ (fst = false ∧ cmpL last.marks x.marks < 0)) ∧ b1 fst last x kind c = (decide (0 < x.many) && decide (checkB ⟨kind,x.marks⟩ c = 0))) := by
  cases fst
  ·by_cases h : cmpL last.marks x.marks < 0
   ·exact .inr ⟨.inr ⟨rfl,h⟩,by simp [b1,h]⟩
   ·exact .inl ⟨rfl,by omega⟩
  ·exact .inr ⟨.inl rfl,by simp [b1]⟩
 have hbf : fst = false → 0 ≤ cmpL last.marks x.marks → b1 fst last x kind c = false := fun h1 h2 => by
  subst h1;simp [b1,show ¬ cmpL last.marks x.marks < 0 by omega]
 obtain ⟨rb,hrbe⟩ : ∃ rb,checkB ⟨kind,x.marks⟩ c = rb := ⟨_,rfl⟩
 simp only [hrbe] at hB hcase
 have HC := Lib.hid hC;have HK := Lib.hid hK;have HB := Lib.hid hB;have HV1 := Lib.hid hV1;have HV2 := Lib.hid hV2;have HBad := Lib.hid hBad;have HO := Lib.hid hO
 have hne1 := hne.1;have hne2 := hne.2.1;have hne3 := hne.2.2
 have hwm : -9223372036854775808 ≤ x.many ∧ x.many ≤ 9223372036854775807 := by simpa [Lit.wf,IntKind.min,IntKind.max,IntKind.bits,IntKind.signed] using hwX
 clear hC hK hB hV1 hV2 hBad hO hrbe g0 g1 hl hx hIL hIX hne
 rcases hcase with ⟨rfl,hcmp⟩ | ⟨hways,hval⟩
 ·have hv := hbf rfl hcmp
  rw [hv]
  generalize cmpL last.marks x.marks = q at *
  clear hbf hv hb0 hz0 hF hS hP
  subst hw0
  obtain ⟨k0,k1,k2,k3,k4,k5,k6⟩ := HK.out _ (Below.refl _ _)
  go_enter Tryz.func133,Tryz.ntmps133
  go_wp2_with (go_at_call 134;refine HC.out.mono ?_;rintro e w1 ⟨rfl,hb1⟩)
  go_ret
  exact HBad.out _ hb1
 ·rw [hval]
  have hm : (¬ 0 < x.many) ∨ (0 < x.many ∧ rb = 0) ∨ (0 < x.many ∧ (rb == 0) = false) := by
   by_cases h1 : 0 < x.many
   ·by_cases h2 : rb = 0
    ·exact .inr (.inl ⟨h1,h2⟩)
    ·exact .inr (.inr ⟨h1,by simpa using h2⟩)
   ·exact .inl h1
  have hr1 : 0 < x.many → rb = 0 → (decide (0 < x.many) && decide (rb = 0)) = true := fun h1 h2 => by simp [h1,h2]
  have hr2 : ¬ 0 < x.many → (decide (0 < x.many) && decide (rb = 0)) = false := fun h1 => by simp [h1]
  have hr3 : (rb == 0) = false → (decide (0 < x.many) && decide (rb = 0)) = false := fun h1 => by
   have : rb ≠ 0 := by simpa using h1
   simp [this]
  have HR1 := Lib.hid hr1;have HR2 := Lib.hid hr2;have HR3 := Lib.hid hr3
  clear hbf hval hb0 hz0 hF hS hP hr1 hr2 hr3
  subst hw0
  have Hbase := Lib.hid hbase.2.2
  rcases hways with rfl | ⟨rfl,hcmp⟩
  ·have k2 := HKw.out.1; have k3 := HKw.out.2.1; have k4 := HKw.out.2.2.1; have k5 := HKw.out.2.2.2.1; have k6 := HKw.out.2.2.2.2
   have hx0 := fun p => (HV1.out.cells p).1
   have hx1 := fun p => (HV1.out.cells p).2.1
   have hx2 := fun p => (HV1.out.cells p).2.2.1
   have hx3 := fun p => (HV1.out.cells p).2.2.2.1
   have hx4 := fun p => (HV1.out.cells p).2.2.2.2
   rcases hm with hm | ⟨hm,rfl⟩ | ⟨hm,hrb⟩
   ·rw [HR2.out hm]
    go_enter Tryz.func133,Tryz.ntmps133
    go_wp2
    have hmd : decide (0 < x.many) = false := decide_eq_false (by omega)
    refine qa3 (by kernel_rfl) (by kernel_rfl) ?_
    repeat (go_big_quiet_step (fail))
    refine wpQuiet_nil ?_
    intro _ hw';obtain ⟨p,rfl⟩ := hw'
    go_wp2
    go_ret
    exact (HV1.out.fin Hbase.out p).2 false
   ·rw [HR1.out hm rfl]
    go_enter Tryz.func133,Tryz.ntmps133
    go_wp2
    refine qa3 (by kernel_rfl) (by kernel_rfl) ?_
    repeat (go_big_quiet_step ((first | (go_at_call 135;have hh := HO.out;exact qab (v := .agg #[.int .u8 kind,.slice aX x.marks.length capX]) (hh _)) | (go_at_call 91;have hh := HB.out;exact qab (v := .int .i64 0) (hh _ (HV1.out.fin Hbase.out _).1)))))
    refine wpQuiet_nil ?_
    intro _ hw';obtain ⟨p,rfl⟩ := hw'
    go_wp2
    go_ret
    exact (HV1.out.fin Hbase.out p).2 true
   ·rw [HR3.out hrb]
    go_enter Tryz.func133,Tryz.ntmps133
    go_wp2
    refine qa3 (by kernel_rfl) (by kernel_rfl) ?_
    repeat (go_big_quiet_step ((first | (go_at_call 135;have hh := HO.out;exact qab (v := .agg #[.int .u8 kind,.slice aX x.marks.length capX]) (hh _)) | (go_at_call 91;have hh := HB.out;exact qab (v := .int .i64 rb) (hh _ (HV1.out.fin Hbase.out _).1)))))
    refine wpQuiet_nil ?_
    intro _ hw';obtain ⟨p,rfl⟩ := hw'
    go_wp2
    go_ret
    exact (HV1.out.fin Hbase.out p).2 false
  ·obtain ⟨q, hq⟩ : ∃ q, cmpL last.marks x.marks = q := ⟨_, rfl⟩
   have hC2 := HC.out
   rw [hq] at hC2 hcmp
   have HC2 := Lib.hid hC2
   clear hq hC2
   obtain ⟨k0,k1,k2,k3,k4,k5,k6⟩ := HK.out _ (Below.refl _ _)
   have HKk := Lib.hid (fun w1 hb1 p => (HV2.out w1 hb1).cells p)
   rcases hm with hm | ⟨hm,rfl⟩ | ⟨hm,hrb⟩
   ·rw [HR2.out hm]
    go_enter Tryz.func133,Tryz.ntmps133
    go_wp2_with (go_at_call 134;refine HC2.out.mono ?_;rintro e w1 ⟨rfl,hb1⟩;obtain ⟨j0,j1,j2,j3,j4,j5,j6⟩ := HK.out _ hb1)
    have hx0 := fun p => (HKk.out w1 hb1 p).1
    have hx1 := fun p => (HKk.out w1 hb1 p).2.1
    have hmd : decide (0 < x.many) = false := decide_eq_false (by omega)
    refine qa3 (by kernel_rfl) (by kernel_rfl) ?_
    repeat (go_big_quiet_step (fail))
    refine wpQuiet_nil ?_
    intro _ hw';obtain ⟨p,rfl⟩ := hw'
    go_wp2
    go_ret
    exact ((HV2.out w1 hb1).fin Hbase.out p).2 false
   ·rw [HR1.out hm rfl]
    go_enter Tryz.func133,Tryz.ntmps133
    go_wp2_with (go_at_call 134;refine HC2.out.mono ?_;rintro e w1 ⟨rfl,hb1⟩;obtain ⟨j0,j1,j2,j3,j4,j5,j6⟩ := HK.out _ hb1)
    have hx0 := fun p => (HKk.out w1 hb1 p).1
    have hx1 := fun p => (HKk.out w1 hb1 p).2.1
    have hx2 := fun p => (HKk.out w1 hb1 p).2.2.1
    have hx3 := fun p => (HKk.out w1 hb1 p).2.2.2.1
    have hx4 := fun p => (HKk.out w1 hb1 p).2.2.2.2
    refine qa3 (by kernel_rfl) (by kernel_rfl) ?_
    repeat (go_big_quiet_step ((first | (go_at_call 135;have hh := HO.out;exact qab (v := .agg #[.int .u8 kind,.slice aX x.marks.length capX]) (hh _)) | (go_at_call 91;have hh := HB.out;exact qab (v := .int .i64 0) (hh _ ((HV2.out w1 hb1).fin Hbase.out _).1)))))
    refine wpQuiet_nil ?_
    intro _ hw';obtain ⟨p,rfl⟩ := hw'
    go_wp2
    go_ret
    exact ((HV2.out w1 hb1).fin Hbase.out p).2 true
   ·rw [HR3.out hrb]
    go_enter Tryz.func133,Tryz.ntmps133
    go_wp2_with (go_at_call 134;refine HC2.out.mono ?_;rintro e w1 ⟨rfl,hb1⟩;obtain ⟨j0,j1,j2,j3,j4,j5,j6⟩ := HK.out _ hb1)
    have hx0 := fun p => (HKk.out w1 hb1 p).1
    have hx1 := fun p => (HKk.out w1 hb1 p).2.1
    have hx2 := fun p => (HKk.out w1 hb1 p).2.2.1
    have hx3 := fun p => (HKk.out w1 hb1 p).2.2.2.1
    have hx4 := fun p => (HKk.out w1 hb1 p).2.2.2.2
    refine qa3 (by kernel_rfl) (by kernel_rfl) ?_
    repeat (go_big_quiet_step ((first | (go_at_call 135;have hh := HO.out;exact qab (v := .agg #[.int .u8 kind,.slice aX x.marks.length capX]) (hh _)) | (go_at_call 91;have hh := HB.out;exact qab (v := .int .i64 rb) (hh _ ((HV2.out w1 hb1).fin Hbase.out _).1)))))
    refine wpQuiet_nil ?_
    intro _ hw';obtain ⟨p,rfl⟩ := hw'
    go_wp2
    go_ret
    exact ((HV2.out w1 hb1).fin Hbase.out p).2 false
end

section
open Go Go.RowKit Go.Shelf

theorem sumR_take {rows : List Row} {k : Nat} (hk : k < rows.length) : sumR (rows.take (k + 1)) = sumR (rows.take k) + rows[k].many := by
 rw [List.take_succ_eq_append_getElem hk];simp only [sumR,List.map_append,List.map_cons,List.map_nil,List.sum_append,List.sum_cons,List.sum_nil];omega
theorem b1_okRow {rows : List Row} {c kind : Int} {k : Nat} (hk : k < rows.length) (h0 : k - 1 < rows.length) : b1 (decide (k = 0)) rows[k - 1] rows[k] kind c = okRow rows c kind k := by
 rw [okRow_at hk,b1,getD_at zR h0]
theorem sum_ok {rows : List Row} {c kind : Int} : ∀ {k : Nat},k ≤ rows.length → (∀ j,j < k → okRow rows c kind j = true) → 0 ≤ sumR (rows.take k)
 | 0,_,_ => Int.le_refl _
 | k + 1,hk,h => by
  have ih := sum_ok (k := k) (by omega) fun j hj => h j (by omega)
  have hm := h k (by omega)
  rw [okRow_at (by omega)] at hm
  simp only [Bool.and_eq_true,decide_eq_true_eq] at hm
  rw [sumR_take (by omega)]
  omega
theorem sum_min {A m : Int} (h : 0 < m) : min (min A 1000001 + m) 1000001 = min (A + m) 1000001 := by omega
theorem okRow_many {rows : List Row} {c kind : Int} {k : Nat} (hk : k < rows.length) (h : okRow rows c kind k = true) : 0 < rows[k].many := by
 rw [okRow_at hk] at h
 simp only [Bool.and_eq_true,decide_eq_true_eq] at h
 exact h.2.1
def AllGives (base bS bP : Nat) (p : Prof) (w : World) (e : Ending) (w' : World) : Prop :=
 e = .returned (.bool (fineP p)) ∧ Below base w w' ∧ (fineP p = true → w'.heap[bS]? = some (.cells #[.int .i64 (min (sumR p.rows) 1000001)] 3 (0,0))) ∧ w'.heap[bP]? = w.heap[bP]?
set_option maxHeartbeats 4000000 in
set_option maxRecDepth 100000 in
theorem allP (S : Nat → Prop) (base bF bS bP : Nat) (p : Prof) (a1 : Option Addr) (c1 : Nat) (w : World) (hx : RRows S w (.slice a1 p.rows.length c1) p.rows)
  (hF : w.heap[bF]? = some (.cells #[.bool true] 4 (0,0))) (hS : w.heap[bS]? = some (.cells #[.int .i64 0] 3 (0,0))) (hP : w.heap[bP]? = some (.cells #[.int .i64 p.cands,.int .u8 p.kind,.slice a1 p.rows.length c1] 24 (0,0)))
  (hne : bF ≠ bS ∧ bF ≠ bP ∧ bS ≠ bP) (hbase : base ≤ bF ∧ base ≤ bS ∧ base ≤ w.heap.size) (hk : 0 ≤ p.kind ∧ p.kind ≤ 255) (hT : ∀ b,S b → b < base) (hl : p.rows.length ≤ 64) :
  Calls Tryz.prog 132 #[.slice a1 p.rows.length c1,.func (.func 133) #[] #[.pointer (some ⟨bF,0,none⟩),.pointer (some ⟨bS,0,none⟩),.pointer (some ⟨bP,0,none⟩)]] w (AllGives base bS bP p w) := by
 obtain ⟨pc,pk,rows⟩ := p
 simp only at hx hP hk hl ⊢
 have eg : ∀ args w,(callFunc 133 args).run Tryz.prog w = .ok (.enter 133 args) w := enters_of Tryz.func133 (by kernel_rfl) rfl
 have hHold := hx
 have H1 := fun (fst : Bool) (sm : Int) (c0 d0 c2 d2 : Value) (last x : Row) (W : World) h1 h2 h3 h4 h5 h6 h7 => check1P S base bF bS bP fst sm pc pk a1 rows.length c1 c0 d0 c2 d2 last x W h1 h2 h3 hne h4 h5 hk hT h6 h7
 have hfine : ∀ k,k < rows.length → okRow rows pc pk k = false → fineP ⟨pc,pk,rows⟩ = false := fun k hk hb => range_bad hk hb
 have hall : (∀ k,k < rows.length → okRow rows pc pk k = true) → fineP ⟨pc,pk,rows⟩ = true := fun h => List.all_eq_true.2 fun k hk => h k (List.mem_range.1 hk)
 have hRT : ∀ W,Below base w W → RRows S W (.slice a1 rows.length c1) rows := fun W hW => hx.same (fun b _ hs => hW.block b (hT b hs))
 have HRT := Lib.hid hRT;have HH1 := Lib.hid H1;have Hfine := Lib.hid hfine;have Hall := Lib.hid hall
 have hzb := hbase.2.2
 have Hbase := Lib.hid hbase
 clear hx hHold hRT H1 hfine hall hbase
 go_enter Tryz.func132,Tryz.ntmps132
 go_wp2
 go_loopw [9] (fun i wr => ∃ k : Nat,k ≤ rows.length ∧ i = .int .i64 k ∧ Hid (∀ j,j < k → okRow rows pc pk j = true) ∧ wr.heap[bF]? = some (.cells #[.bool (decide (k = 0))] 4 (0,0)) ∧ wr.heap[bS]? = some (.cells #[.int .i64 (min (sumR (rows.take k)) 1000001)] 3 (0,0)) ∧ wr.heap[bP]? = w.heap[bP]? ∧ Below base w wr) (fun i _ => rows.length - (intOf i).toNat)
 case atStart => exact ⟨0,Nat.zero_le _,rfl,Lib.hid (fun _ h => by omega),by simpa using hF,hS,rfl,Below.refl _ _⟩
 case round =>
  obtain ⟨k,hk,rfl,hok,gF,gS,gP,hb⟩ := hrel
  by_cases hlt : k < rows.length
  ·have hzr := hb.size
   have hR := HRT.out wr hb
   have hs0 := sum_ok hk hok.out
   have hk1 : k - 1 < rows.length := by omega
   have hbo := b1_okRow (c := pc) (kind := pk) hlt hk1
   have hsu := sumR_take hlt
   have hmany := okRow_many (c := pc) (kind := pk) hlt
   have hfb := Hfine.out k hlt
   obtain ⟨b,off,c2,d2,rfl,-,hbw,hc2,hd2,hx2⟩ := RSl.at2 hR k hlt
   have hbn := qa1 wr (.cells #[c2,d2] 66)
   have hCK := fun c0 d0 (h : dRow S wr [c0,d0] (rows[k - 1]'hk1)) => HH1.out (decide (k = 0)) (min (sumR (rows.take k)) 1000001) c0 d0 c2 d2 rows[k - 1] rows[k] (wr.alloc (.cells #[c2,d2] 66)).drew
    (qay _ gF) (qay _ gS) (qay _ (gP.trans hP)) ⟨Hbase.out.1,Hbase.out.2.1,by simp;omega⟩ ⟨by omega,by omega⟩
    (dRow.stable S _ _ _ _ (.of_below (Below.drew hbn)) h) (dRow.stable S _ _ _ _ (.of_below (Below.drew hbn)) hx2)
   rw [hbo] at hCK
   have hcell2 := RSl.at2 hR (k - 1) hk1
   have hx2' := hx2
   obtain ⟨ax,capx,rfl,rfl,-⟩ := hx2.open
   obtain ⟨r,hr⟩ : ∃ r,okRow rows pc pk k = r := ⟨_,rfl⟩
   rw [hr] at hCK hmany hfb
   have HwP := Lib.hid (show (wr.alloc (.cells #[.slice ax rows[k].marks.length capx,.int .i64 rows[k].many] 66)).drew.heap[bP]? = w.heap[bP]? from (by rw [hP];exact qay _ (gP.trans hP)))
   have Hr := Lib.hid hr
   have Hmany := Lib.hid hmany;have Hfb := Lib.hid hfb;have Hsu := Lib.hid hsu;have Hs0 := Lib.hid hs0
   have hbase2 : base ≤ wr.heap.size := by omega
   have HBN := Lib.hid (Below.drew (hb.trans (hbn.mono hbase2)))
   clear hmany hfb hsu hs0 hr hbo hR hx2 gF gS gP hF hS hP
   rcases Nat.eq_zero_or_pos k with h0 | h0
   ·subst h0
    have HCK := Lib.hid (hCK _ _ hx2')
    clear hCK hcell2 hx2'
    simp only [Nat.zero_mul,Nat.add_zero] at hc2 hd2
    have hmx0 : max (IntKind.i64.wrap (-1)) 0 = 0 := rfl
    cases r
    ·have HFF := Lib.hid (Hfb.out rfl)
     clear Hfb
     go_wp2
     go_region_law (go_simp;go_at_fn 133;refine HCK.out.mono ?_;rintro e w1 ⟨rfl,hb1,hp1,hr1⟩;have Hp1 := Lib.hid hp1;clear hp1 hr1)
     all_goals
      go_wp2
      go_ret
      exact ⟨by rw [HFF.out];rfl,HBN.out.trans hb1,fun h => (by rw [HFF.out] at h;cases h),Hp1.out.trans HwP.out⟩
    ·have hmn := Hmany.out rfl
     go_wp2
     go_region_law (go_simp;go_at_fn 133;refine HCK.out.mono ?_;rintro e w1 ⟨rfl,hb1,hp1,hr1⟩;have Hp1 := Lib.hid hp1;have Hr1 := Lib.hid (hr1 rfl);clear hp1 hr1)
     all_goals
      go_wp2
      obtain ⟨f1,f2⟩ := Hr1.out
      refine ⟨⟨0 + 1,by omega,by go_num,Lib.hid (fun t ht => ?_),by simpa using f1,?_,Hp1.out.trans HwP.out,HBN.out.trans hb1⟩,by simp [intOf];omega⟩
      ·by_cases e : t = 0
       ·subst e;exact Hr.out
       ·exact hok.out t (by omega)
      ·rw [Hsu.out,← sum_min hmn];exact f2
   ·obtain ⟨b', off', c0, d0, e', -, -, hc0, hd0, hx0⟩ := hcell2
    simp only [Option.some.injEq,Addr.mk.injEq,and_true] at e'
    obtain ⟨rfl,rfl⟩ := e'
    have hCK2 := hCK _ _ hx0
    obtain ⟨ay,capy,rfl,rfl,-⟩ := hx0.open
    clear hx0 hCK hx2'
    obtain ⟨j,rfl⟩ : ∃ j,k = j + 1 := ⟨k - 1,by omega⟩
    have HCK := Lib.hid hCK2
    clear hCK2
    simp only [Nat.add_sub_cancel] at hc0 hd0 HCK
    have hjl : j < rows.length := by omega
    have hmx : max (IntKind.i64.wrap (j : Int)) 0 = j := by rw [IntKind.wrap_i64];omega
    cases r
    ·have HFF := Lib.hid (Hfb.out rfl)
     clear Hfb
     go_wp2
     go_region_law (go_simp;go_at_fn 133;refine HCK.out.mono ?_;rintro e w1 ⟨rfl,hb1,hp1,hr1⟩;have Hp1 := Lib.hid hp1;clear hp1 hr1)
     all_goals
      go_wp2
      go_ret
      exact ⟨by rw [HFF.out];rfl,HBN.out.trans hb1,fun h => (by rw [HFF.out] at h;cases h),Hp1.out.trans HwP.out⟩
    ·have hmn := Hmany.out rfl
     go_wp2
     go_region_law (go_simp;go_at_fn 133;refine HCK.out.mono ?_;rintro e w1 ⟨rfl,hb1,hp1,hr1⟩;have Hp1 := Lib.hid hp1;have Hr1 := Lib.hid (hr1 rfl);clear hp1 hr1)
     all_goals
      go_wp2
      obtain ⟨f1,f2⟩ := Hr1.out
      refine ⟨⟨j + 1 + 1,by omega,by go_num,Lib.hid (fun t ht => ?_),by simpa using f1,?_,Hp1.out.trans HwP.out,HBN.out.trans hb1⟩,by simp [intOf];omega⟩
      ·by_cases e : t = (j + 1)
       ·subst e;exact Hr.out
       ·exact hok.out t (by omega)
      ·rw [Hsu.out,← sum_min hmn];exact f2
  ·have hkl : k = rows.length := by omega
   have hA := Hall.out (fun j hj => hok.out j (by omega))
   have hR : AllGives base bS bP ⟨pc,pk,rows⟩ w (.returned (.bool true)) wr := ⟨by rw [hA],hb,fun _ => by rw [gS,hkl,List.take_length],gP⟩
   have HR := Lib.hid hR
   clear hA hR gF gS gP hF hS hP
   subst hkl
   go_wp2
   go_ret
   exact HR.out
end
end Go.Proofs.YthcbkhfmdginiaaGreat
