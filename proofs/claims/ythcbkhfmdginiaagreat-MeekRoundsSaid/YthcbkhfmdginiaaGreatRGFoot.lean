/- Texts of one claim,put together: Base,App,Open,Base2,Quiet,Wr,OwnX,Sep,Store,Mix. -/
import Derived.Below
import Derived.Maps.AppendAt
import Derived.WalkKit
import Derived.Lib.Hide
import Derived.Deep.Slices
import Derived.ProofKit
import Derived.SizedLaws
import Derived.Deep.QuietTactic
import Derived.BigQuiet

namespace Go.Proofs.YthcbkhfmdginiaaGreat
section
open Go Go.RowKit

def Same (S : Nat → Prop) (w w' : World) : Prop := ∀ b,b < w.heap.size → S b → w'.heap[b]? = w.heap[b]?
def Any : Nat → Prop := fun _ => True
def From (lo : Nat) : Nat → Prop := fun b => lo ≤ b

theorem Same.of_below {S : Nat → Prop} {w w' : World} (h : Below w.heap.size w w') : Same S w w' := fun b hb _ => h.block b hb
theorem Same.refl (S : Nat → Prop) (w : World) : Same S w w := fun _ _ _ => rfl
theorem Same.mono {S T : Nat → Prop} {w w' : World} (h : Same S w w') (hT : ∀ b,T b → S b) : Same T w w' := fun b hb hs => h b hb (hT b hs)
theorem qag {w : World} {b o : Nat} {v : Value} (h : w.cell? ⟨b,o,none⟩ = some v) : b < w.heap.size := World.block_lt_of_cell? w _ h
theorem Same.cell {S : Nat → Prop} {w w' : World} (h : Same S w w') {b o : Nat} {v : Value} (hS : S b) (hc : w.cell? ⟨b,o,none⟩ = some v) :
  w'.cell? ⟨b,o,none⟩ = some v := (World.cell?_of_block (w := w) (h b (qag hc) hS)).trans hc

def Dec {α : Type} (n : Nat) (dec : World → List Value → α → Prop) (w : World) (cells : List Value) (xs : List α) : Prop :=
 cells.length = xs.length * n ∧ ∀ i (h : i < xs.length),dec w ((cells.drop (i * n)).take n) xs[i]

def RSl {α : Type} (S : Nat → Prop) (n : Nat) (dec : World → List Value → α → Prop) (w : World) (v : Value) (xs : List α) : Prop :=
 ∃ a cap cells,v = .slice a xs.length cap ∧ xs.length ≤ cap ∧ xs.length ≤ 140737488355328 ∧ Dec n dec w cells xs ∧
  (xs = [] ∨ ∃ b off,a = some ⟨b,off,none⟩ ∧ S b ∧ ∀ j u,cells[j]? = some u → w.cell? ⟨b,off + j,none⟩ = some u)

def Stable {α : Type} (S : Nat → Prop) (dec : World → List Value → α → Prop) : Prop :=
 ∀ w w' cs x,Same S w w' → dec w cs x → dec w' cs x

theorem Dec.same {α : Type} {S : Nat → Prop} {n : Nat} {dec : World → List Value → α → Prop} (hst : Stable S dec) {w w' : World} {cells : List Value} {xs : List α}
  (hs : Same S w w') (h : Dec n dec w cells xs) : Dec n dec w' cells xs := ⟨h.1,fun i hi => hst _ _ _ _ hs (h.2 i hi)⟩

theorem RSl.same {α : Type} {S : Nat → Prop} {n : Nat} {dec : World → List Value → α → Prop} (hst : Stable S dec) {w w' : World} {v : Value} {xs : List α}
  (hs : Same S w w') (h : RSl S n dec w v xs) : RSl S n dec w' v xs := by
 obtain ⟨a,cap,cells,hv,h1,h2,h3,h4⟩ := h
 refine ⟨a,cap,cells,hv,h1,h2,h3.same hst hs,?_⟩
 rcases h4 with h4 | ⟨b,off,ha,hS,hc⟩
 ·exact .inl h4
 ·exact .inr ⟨b,off,ha,hS,fun j u hu => hs.cell hS (hc j u hu)⟩

theorem RSl.mono {α : Type} {S T : Nat → Prop} {n : Nat} {dec dec' : World → List Value → α → Prop} (hd : ∀ w cs x,dec w cs x → dec' w cs x) (hT : ∀ b,S b → T b)
  {w : World} {v : Value} {xs : List α} (h : RSl S n dec w v xs) : RSl T n dec' w v xs := by
 obtain ⟨a,cap,cells,hv,h1,h2,h3,h4⟩ := h
 refine ⟨a,cap,cells,hv,h1,h2,⟨h3.1,fun i hi => hd _ _ _ (h3.2 i hi)⟩,?_⟩
 rcases h4 with h4 | ⟨b,off,ha,hS,hc⟩
 ·exact .inl h4
 ·exact .inr ⟨b,off,ha,hT b hS,hc⟩

theorem RSl.nil {α : Type} {S : Nat → Prop} {n : Nat} {dec : World → List Value → α → Prop} {w : World} : RSl S n dec w (.slice none 0 0) ([] : List α) :=
 ⟨none,0,[],rfl,by simp,by simp,⟨by simp,fun i hi => by simp at hi⟩,.inl rfl⟩

theorem RSl.get1 {α : Type} {S : Nat → Prop} {dec : World → List Value → α → Prop} {w : World} {v : Value} {xs : List α} (h : RSl S 1 dec w v xs) (k : Nat) (hk : k < xs.length) :
  ∃ b off cap c,v = .slice (some ⟨b,off,none⟩) xs.length cap ∧ S b ∧ w.cell? ⟨b,off + k,none⟩ = some c ∧ dec w [c] xs[k] := by
 obtain ⟨a,cap,cells,rfl,_,_,hD,h4⟩ := h
 rcases h4 with h4 | ⟨b,off,rfl,hS,hc⟩
 ·subst h4;simp at hk
 have hl : k < cells.length := by rw [hD.1];omega
 refine ⟨b,off,cap,cells[k],rfl,hS,hc k _ (by simp [hl]),?_⟩
 have := hD.2 k hk
 rwa [Nat.mul_one,List.drop_eq_getElem_cons hl,List.take_succ_cons,List.take_zero] at this

theorem RSl.get2 {α : Type} {S : Nat → Prop} {dec : World → List Value → α → Prop} {w : World} {v : Value} {xs : List α} (h : RSl S 2 dec w v xs) (k : Nat) (hk : k < xs.length) :
  ∃ b off cap c d,v = .slice (some ⟨b,off,none⟩) xs.length cap ∧ S b ∧ w.cell? ⟨b,off + k * 2,none⟩ = some c ∧ w.cell? ⟨b,off + k * 2 + 1,none⟩ = some d ∧ dec w [c,d] xs[k] := by
 obtain ⟨a,cap,cells,rfl,_,_,hD,h4⟩ := h
 rcases h4 with h4 | ⟨b,off,rfl,hS,hc⟩
 ·subst h4;simp at hk
 have hl : k * 2 + 1 < cells.length := by rw [hD.1];omega
 refine ⟨b,off,cap,cells[k * 2],cells[k * 2 + 1],rfl,hS,hc (k * 2) _ (List.getElem?_eq_getElem _),hc (k * 2 + 1) _ (List.getElem?_eq_getElem _),?_⟩
 have := hD.2 k hk
 rwa [List.drop_eq_getElem_cons (by omega),List.drop_eq_getElem_cons hl,List.take_succ_cons,List.take_succ_cons,List.take_zero] at this

theorem RSl.shape {α : Type} {S : Nat → Prop} {n : Nat} {dec : World → List Value → α → Prop} {w : World} {v : Value} {xs : List α} (h : RSl S n dec w v xs) :
  ∃ a cap,v = .slice a xs.length cap ∧ xs.length ≤ cap ∧ xs.length ≤ 140737488355328 := by
 obtain ⟨a,cap,_,hv,h1,h2,_⟩ := h;exact ⟨a,cap,hv,h1,h2⟩
theorem RSl.at1 {α : Type} {S : Nat → Prop} {dec : World → List Value → α → Prop} {w : World} {a : Option Addr} {n cap : Nat} {xs : List α} (h : RSl S 1 dec w (.slice a n cap) xs) (k : Nat) (hk : k < xs.length) :
  ∃ b off c,a = some ⟨b,off,none⟩ ∧ S b ∧ b < w.heap.size ∧ w.cell? ⟨b,off + k,none⟩ = some c ∧ dec w [c] xs[k] := by
 obtain ⟨b,off,cap',c,hv,hS,hc,hd⟩ := h.get1 k hk
 simp only [Value.slice.injEq] at hv
 exact ⟨b,off,c,hv.1,hS,qag hc,hc,hd⟩
theorem RSl.at2 {α : Type} {S : Nat → Prop} {dec : World → List Value → α → Prop} {w : World} {a : Option Addr} {n cap : Nat} {xs : List α} (h : RSl S 2 dec w (.slice a n cap) xs) (k : Nat) (hk : k < xs.length) :
  ∃ b off c d,a = some ⟨b,off,none⟩ ∧ S b ∧ b < w.heap.size ∧ w.cell? ⟨b,off + k * 2,none⟩ = some c ∧ w.cell? ⟨b,off + k * 2 + 1,none⟩ = some d ∧ dec w [c,d] xs[k] := by
 obtain ⟨b,off,cap',c,d,hv,hS,hc,hd,hx⟩ := h.get2 k hk
 simp only [Value.slice.injEq] at hv
 exact ⟨b,off,c,d,hv.1,hS,qag hc,hc,hd,hx⟩

def dInt (k : IntKind) (_ : World) (cs : List Value) (x : Int) : Prop := cs = [.int k x] ∧ (Lit.int k x).wf = true
structure Blt where
 kind : Int
 marks : List Int
structure Btc where
 name : ByteArray
 blts : List Blt
def RInts (S : Nat → Prop) (w : World) (v : Value) (xs : List Int) : Prop := RSl S 1 (dInt .i64) w v xs
def dBlt (S : Nat → Prop) (w : World) (cs : List Value) (x : Blt) : Prop :=
 ∃ v,cs = [.int .u8 x.kind,v] ∧ 0 ≤ x.kind ∧ x.kind ≤ 255 ∧ RInts S w v x.marks
def RBlts (S : Nat → Prop) (w : World) (v : Value) (xs : List Blt) : Prop := RSl S 2 (dBlt S) w v xs
def dBtc (S : Nat → Prop) (w : World) (cs : List Value) (x : Btc) : Prop :=
 ∃ v,cs = [.string x.name,v] ∧ x.name.size ≤ 140737488355328 ∧ RBlts S w v x.blts
def RBtcs (S : Nat → Prop) (w : World) (v : Value) (xs : List Btc) : Prop := RSl S 2 (dBtc S) w v xs

theorem dInt.stable (S : Nat → Prop) (k : IntKind) : Stable S (dInt k) := fun _ _ _ _ _ h => h
theorem RInts.same {S : Nat → Prop} {w w' : World} {v : Value} {xs : List Int} (hs : Same S w w') (h : RInts S w v xs) : RInts S w' v xs := RSl.same (dInt.stable S _) hs h
theorem dBlt.stable (S : Nat → Prop) : Stable S (dBlt S) := fun _ _ _ _ hs ⟨v,h1,h2,h3,h4⟩ => ⟨v,h1,h2,h3,h4.same hs⟩
theorem RBlts.same {S : Nat → Prop} {w w' : World} {v : Value} {xs : List Blt} (hs : Same S w w') (h : RBlts S w v xs) : RBlts S w' v xs := RSl.same (dBlt.stable S) hs h
theorem dBtc.stable (S : Nat → Prop) : Stable S (dBtc S) := fun _ _ _ _ hs ⟨v,h1,h2,h3⟩ => ⟨v,h1,h2,h3.same hs⟩
theorem RBtcs.same {S : Nat → Prop} {w w' : World} {v : Value} {xs : List Btc} (hs : Same S w w') (h : RBtcs S w v xs) : RBtcs S w' v xs := RSl.same (dBtc.stable S) hs h
theorem RInts.mono {S T : Nat → Prop} {w : World} {v : Value} {xs : List Int} (hT : ∀ b,S b → T b) (h : RInts S w v xs) : RInts T w v xs := RSl.mono (fun _ _ _ h => h) hT h
theorem dBlt.mono {S T : Nat → Prop} {w : World} {cs : List Value} {x : Blt} (hT : ∀ b,S b → T b) (h : dBlt S w cs x) : dBlt T w cs x :=
 let ⟨v,h1,h2,h3,h4⟩ := h;⟨v,h1,h2,h3,h4.mono hT⟩
theorem RBlts.mono {S T : Nat → Prop} {w : World} {v : Value} {xs : List Blt} (hT : ∀ b,S b → T b) (h : RBlts S w v xs) : RBlts T w v xs := RSl.mono (fun _ _ _ h => h.mono hT) hT h
theorem dBtc.mono {S T : Nat → Prop} {w : World} {cs : List Value} {x : Btc} (hT : ∀ b,S b → T b) (h : dBtc S w cs x) : dBtc T w cs x :=
 let ⟨v,h1,h2,h3⟩ := h;⟨v,h1,h2,h3.mono hT⟩
theorem RBtcs.mono {S T : Nat → Prop} {w : World} {v : Value} {xs : List Btc} (hT : ∀ b,S b → T b) (h : RBtcs S w v xs) : RBtcs T w v xs := RSl.mono (fun _ _ _ h => h.mono hT) hT h

def Cut (S : Nat → Prop) (n : Nat) : Nat → Prop := fun b => S b ∧ b < n
theorem Cut.sub {S : Nat → Prop} {n b : Nat} (h : Cut S n b) : S b := h.1
theorem RSl.cut {α : Type} {S : Nat → Prop} {n : Nat} {dec dec' : World → List Value → α → Prop} {w : World} {v : Value} {xs : List α} (hn : 0 < n) (hd : ∀ cs x,dec w cs x → dec' w cs x) (h : RSl S n dec w v xs) :
  RSl (Cut S w.heap.size) n dec' w v xs := by
 obtain ⟨a,cap,cells,hv,h1,h2,h3,h4⟩ := h
 refine ⟨a,cap,cells,hv,h1,h2,⟨h3.1,fun i hi => hd _ _ (h3.2 i hi)⟩,?_⟩
 rcases h4 with h4 | ⟨b,off,ha,hS,hc⟩
 ·exact .inl h4
 ·rcases Nat.eq_zero_or_pos xs.length with h0 | h0
  ·exact .inl (List.eq_nil_of_length_eq_zero h0)
  ·have hl : 0 < cells.length := by rw [h3.1]; exact Nat.mul_pos h0 hn
   exact .inr ⟨b,off,ha,⟨hS,qag (hc 0 _ (List.getElem?_eq_getElem hl))⟩,hc⟩
theorem RInts.cut {S : Nat → Prop} {w : World} {v : Value} {xs : List Int} (h : RInts S w v xs) : RInts (Cut S w.heap.size) w v xs := RSl.cut (by omega) (fun _ _ h => h) h
theorem dBlt.cut {S : Nat → Prop} {w : World} {cs : List Value} {x : Blt} (h : dBlt S w cs x) : dBlt (Cut S w.heap.size) w cs x := let ⟨v,h1,h2,h3,h4⟩ := h;⟨v,h1,h2,h3,h4.cut⟩
theorem RBlts.cut {S : Nat → Prop} {w : World} {v : Value} {xs : List Blt} (h : RBlts S w v xs) : RBlts (Cut S w.heap.size) w v xs := RSl.cut (by omega) (fun _ _ h => h.cut) h
theorem dBtc.cut {S : Nat → Prop} {w : World} {cs : List Value} {x : Btc} (h : dBtc S w cs x) : dBtc (Cut S w.heap.size) w cs x := let ⟨v,h1,h2,h3⟩ := h;⟨v,h1,h2,h3.cut⟩
theorem RBtcs.cut {S : Nat → Prop} {w : World} {v : Value} {xs : List Btc} (h : RBtcs S w v xs) : RBtcs (Cut S w.heap.size) w v xs := RSl.cut (by omega) (fun _ _ h => h.cut) h
theorem Same.of_grown {S : Nat → Prop} {w w' : World} {row : Option Nat} (hg : w.grownBy w' row) (hr : ∀ b,S b → some b ≠ row) : Same S w w' := fun b hb hs => hg.block b hb (hr b hs)
theorem Same.setCell {S : Nat → Prop} {a w : World} (h : Same S a w) {p : Addr} (hp : ¬ S p.block) (u : Value) : Same S a (w.setCell p u) :=
 fun b hb hs => (Below.heap_setCell w p u b (fun e => hp (e ▸ hs))).trans (h b hb hs)
theorem Same.trans {S : Nat → Prop} {a b c : World} (h : Same S a b) (k : Same S b c) (hs : a.heap.size ≤ b.heap.size) : Same S a c :=
 fun i hi hS => (k i (Nat.lt_of_lt_of_le hi hs) hS).trans (h i hi hS)

theorem dInt.open {k : IntKind} {w : World} {c : Value} {x : Int} (h : dInt k w [c] x) : c = .int k x ∧ (Lit.int k x).wf = true := by
 simpa [dInt] using h
theorem dBlt.open {S : Nat → Prop} {w : World} {c d : Value} {x : Blt} (h : dBlt S w [c,d] x) :
  ∃ a cap,c = .int .u8 x.kind ∧ d = .slice a x.marks.length cap ∧ x.marks.length ≤ 140737488355328 ∧ 0 ≤ x.kind ∧ x.kind ≤ 255 ∧ RInts S w (.slice a x.marks.length cap) x.marks := by
 obtain ⟨v,h1,h2,h3,h4⟩ := h
 simp only [List.cons.injEq,and_true] at h1
 obtain ⟨rfl,rfl⟩ := h1
 obtain ⟨a,cap,hv,_,hl⟩ := RSl.shape h4
 exact ⟨a,cap,rfl,hv,hl,h2,h3,hv ▸ h4⟩
theorem dBtc.open {S : Nat → Prop} {w : World} {c d : Value} {x : Btc} (h : dBtc S w [c,d] x) :
  ∃ a cap,c = .string x.name ∧ d = .slice a x.blts.length cap ∧ x.blts.length ≤ 140737488355328 ∧ x.name.size ≤ 140737488355328 ∧ RBlts S w (.slice a x.blts.length cap) x.blts := by
 obtain ⟨v,h1,h2,h4⟩ := h
 simp only [List.cons.injEq,and_true] at h1
 obtain ⟨rfl,rfl⟩ := h1
 obtain ⟨a,cap,hv,_,hl⟩ := RSl.shape h4
 exact ⟨a,cap,rfl,hv,hl,h2,hv ▸ h4⟩
def VBlt (S : Nat → Prop) (w : World) (v : Value) (x : Blt) : Prop := ∃ c d,v = .agg #[c,d] ∧ dBlt S w [c,d] x
theorem VBlt.same {S : Nat → Prop} {w w' : World} {v : Value} {x : Blt} (hs : Same S w w') (h : VBlt S w v x) : VBlt S w' v x :=
 let ⟨c,d,h1,h2⟩ := h;⟨c,d,h1,dBlt.stable S _ _ _ _ hs h2⟩
theorem VBlt.mono {S T : Nat → Prop} {w : World} {v : Value} {x : Blt} (hT : ∀ b,S b → T b) (h : VBlt S w v x) : VBlt T w v x :=
 let ⟨c,d,h1,h2⟩ := h;⟨c,d,h1,h2.mono hT⟩
theorem qaa {a b : Bool} (h : a = b) : Ending.returned (.bool a) = .returned (.bool b) := by rw [h]
theorem qac {k : IntKind} {a b : Int} (h : a = b) : Ending.returned (.int k a) = .returned (.int k b) := by rw [h]

theorem qa6 {B : Nat} {W w1 : World} {g : Nat} {cs : Array Value} {e : TypeId} (hb : Below B W w1) (hg : g < B) (h : W.heap[g]? = some (.cells cs e (0,0))) :
  w1.heap[g]? = some (.cells cs e (0,0)) ∧ (∀ i,w1.cell? ⟨g,i,none⟩ = cs[i]?) ∧ (∀ i,w1.frozen? ⟨g,i,none⟩ = false) := by
 have h1 : w1.heap[g]? = some (.cells cs e (0,0)) := (hb.block g hg).trans h
 exact ⟨h1,fun i => by simp [World.cell?,h1],fun i => by simp [World.frozen?,h1]⟩
theorem qa0 {W : World} {g : Nat} {o : Obj} (h : W.heap[g]? = some o) : g < W.heap.size := by
 rcases Nat.lt_or_ge g W.heap.size with h' | h'
 ·exact h'
 ·rw [Array.getElem?_eq_none h'] at h;cases h
theorem qa8 (w : World) (o : Obj) : (w.alloc o).heap[w.heap.size]? = some o := by show (w.heap.push o)[w.heap.size]? = some o;simp
theorem qay {w : World} {g : Nat} {o : Obj} (o' : Obj) (h : w.heap[g]? = some o) : (w.alloc o').heap[g]? = some o := by
 have hg : g < w.heap.size := by
  rcases Nat.lt_or_ge g w.heap.size with h' | h'
  ·exact h'
  ·rw [Array.getElem?_eq_none h'] at h;cases h
 rw [Below.heap_alloc w o' g hg];exact h

end

section
open Go Go.RowKit

def OneC {α : Type} (dec : World → List Value → α → Prop) : Prop := ∀ w cs x,dec w cs x → ∀ u ∈ cs,u.oneCell' = true
theorem dInt.one (k : IntKind) : OneC (dInt k) := by
 intro w cs x h u hu;obtain ⟨rfl,_⟩ := h;simp at hu;subst hu;rfl
theorem qb6 {α : Type} {S : Nat → Prop} {n : Nat} {dec : World → List Value → α → Prop} {w : World} {v : Value} {xs : List α} (h : RSl S n dec w v xs) : v.oneCell' = true := by
 obtain ⟨a,cap,rfl,_⟩ := RSl.shape h;rfl
theorem dBlt.one (S : Nat → Prop) : OneC (dBlt S) := by
 intro w cs x h u hu;obtain ⟨v,rfl,_,_,hv⟩ := h;simp at hu;rcases hu with rfl | rfl
 ·rfl
 ·exact qb6 hv
theorem dBtc.one (S : Nat → Prop) : OneC (dBtc S) := by
 intro w cs x h u hu;obtain ⟨v,rfl,_,hv⟩ := h;simp at hu;rcases hu with rfl | rfl
 ·rfl
 ·exact qb6 hv

theorem Dec.one {α : Type} {n : Nat} {dec : World → List Value → α → Prop} (h1 : OneC dec) (hn : 0 < n) {w : World} {cells : List Value} {xs : List α} (h : Dec n dec w cells xs) :
  ∀ u ∈ cells,u.oneCell' = true := by
 intro u hu
 obtain ⟨j,hj,rfl⟩ := List.getElem_of_mem hu
 have hlen := h.1
 have hi : j / n < xs.length := by rw [Nat.div_lt_iff_lt_mul hn];omega
 refine h1 _ _ _ (h.2 (j / n) hi) _ ?_
 have hm : j % n < n := Nat.mod_lt _ hn
 have hd : j / n * n + j % n = j := by rw [Nat.mul_comm];exact Nat.div_add_mod j n
 have : ((cells.drop (j / n * n)).take n)[j % n]? = some cells[j] := by
  rw [List.getElem?_take_of_lt hm,List.getElem?_drop,hd];simp [hj]
 exact List.mem_of_getElem? this

theorem Dec.append {α : Type} {n : Nat} {dec : World → List Value → α → Prop} {w : World} {cs ds : List Value} {xs ys : List α} (h : Dec n dec w cs xs) (k : Dec n dec w ds ys) :
  Dec n dec w (cs ++ ds) (xs ++ ys) := by
 have hl := h.1
 have hk := k.1
 refine ⟨by rw [List.length_append,List.length_append,hl,hk,Nat.add_mul],fun i hi => ?_⟩
 by_cases hx : i < xs.length
 ·rw [List.getElem_append_left hx, List.drop_append_of_le_length (by rw [hl]; exact Nat.mul_le_mul_right _ (Nat.le_of_lt hx)), List.take_append_of_le_length]
  ·exact h.2 i hx
  ·rw [List.length_drop, hl, ← Nat.sub_mul]
   exact Nat.le_mul_of_pos_left _ (by omega)
 ·rw [List.getElem_append_right (by omega)]
  have : (cs ++ ds).drop (i * n) = ds.drop ((i - xs.length) * n) := by
   rw [List.drop_append]
   have h1 : cs.drop (i * n) = [] := List.drop_eq_nil_of_le (by rw [hl];exact Nat.mul_le_mul_right _ (by omega))
   rw [h1,List.nil_append,hl,← Nat.sub_mul]
  rw [this]
  exact k.2 _ _

theorem Dec.nil {α : Type} (n : Nat) (dec : World → List Value → α → Prop) (w : World) : Dec n dec w [] ([] : List α) := ⟨by simp,fun i hi => by simp at hi⟩
theorem Dec.single {α : Type} {n : Nat} {dec : World → List Value → α → Prop} {w : World} {cs : List Value} {x : α} (hl : cs.length = n) (h : dec w cs x) : Dec n dec w cs [x] := by
 refine ⟨by simp [hl],fun i hi => ?_⟩
 obtain rfl : i = 0 := by simpa using hi
 simp only [Nat.zero_mul,List.drop_zero,← hl,List.take_length,List.getElem_cons_zero]
 exact h

def Own {α : Type} (base : Nat) (e : TypeId) (n : Nat) (dec : World → List Value → α → Prop) (w : World) (v : Value) (xs : List α) : Prop :=
 ∃ cells,w.ownsRow base e n v xs.length cells ∧ Dec n dec w cells xs

theorem Own.nil {α : Type} (base : Nat) (e : TypeId) (n : Nat) (dec : World → List Value → α → Prop) (w : World) : Own base e n dec w (.slice none 0 0) ([] : List α) :=
 ⟨[],World.ownsRow_nil w base e n,Dec.nil n dec w⟩
theorem Own.made {α : Type} (base : Nat) (e : TypeId) (n : Nat) (dec : World → List Value → α → Prop) (w : World) (cur : Array Value) (cap : Nat) (hb : base ≤ w.heap.size) (hm : cap ≤ maxLen) (hs : cur.size = cap * n) :
  Own base e n dec (w.alloc (.cells cur e)) (.slice (some ⟨w.heap.size,0,none⟩) 0 cap) ([] : List α) :=
 ⟨[],World.ownsRow_made w cur cap hb hm hs,Dec.nil n dec _⟩
theorem Own.fresh {α : Type} (base : Nat) (e : TypeId) (n : Nat) (dec : World → List Value → α → Prop) {w : World} {g : Nat} {cur : Array Value} (cap : Nat) (h : w.heap[g]? = some (.cells cur e (0,0))) (hb : base ≤ g) (hm : cap ≤ maxLen) (hs : cur.size = cap * n) :
  Own base e n dec w (.slice (some ⟨g,0,none⟩) 0 cap) ([] : List α) :=
 ⟨[],⟨by simp,.inr ⟨g,cap,cur,rfl,hb,h,Nat.zero_le _,hm,hs,by simp⟩⟩,Dec.nil n dec _⟩
theorem Own.shape {α : Type} {base : Nat} {e : TypeId} {n : Nat} {dec : World → List Value → α → Prop} {w : World} {v : Value} {xs : List α} (h : Own base e n dec w v xs) :
  ∃ a cap,v = .slice a xs.length cap := by
 obtain ⟨cells,h,_⟩ := h
 rcases h.2 with ⟨rfl,h0⟩ | ⟨g,cap,cur,rfl,_⟩
 ·exact ⟨none,0,by rw [h0]⟩
 ·exact ⟨_,cap,rfl⟩
theorem Own.rsl {α : Type} {base : Nat} {e : TypeId} {n : Nat} {dec : World → List Value → α → Prop} {w : World} {v : Value} {xs : List α} (h : Own base e n dec w v xs) (hl : xs.length ≤ 140737488355328) :
  RSl (From base) n dec w v xs := by
 obtain ⟨cells,ho,hd⟩ := h
 have hc := @World.ownsRow.cells _ _ _ _ _ _ _ ho
 rcases ho.2 with ⟨rfl,h0⟩ | ⟨g,cap,cur,rfl,hb,hg,hn,_⟩
 ·exact ⟨none,0,cells,by rw [h0],by omega,hl,hd,.inl (List.eq_nil_of_length_eq_zero h0)⟩
 ·refine ⟨_, cap, cells, rfl, hn, hl, hd, .inr ⟨g, 0, rfl, hb, fun j u hu => ?_⟩⟩
  have := hc (g := g) rfl j u hu
  have hadd : (⟨g,0,none⟩ : Addr).add j = ⟨g,0 + j,none⟩ := by unfold Addr.add;split <;> simp_all
  rwa [hadd] at this
theorem Own.kept {α : Type} {base : Nat} {e : TypeId} {n : Nat} {dec : World → List Value → α → Prop} {S : Nat → Prop} (hst : Stable S dec) {w w' : World} {v : Value} {xs : List α} {row : Option Nat}
  (h : Own base e n dec w v xs) (hg : w.grownBy w' row) (hne : v.ownBlock = none ∨ v.ownBlock ≠ row) (hS : Same S w w') : Own base e n dec w' v xs := by
 obtain ⟨cells,ho,hd⟩ := h
 exact ⟨cells,ho.kept hg hne,hd.same hst hS⟩
theorem qan {w w' : World} (h : Below w.heap.size w w') : w.grownBy w' none := ⟨h.os,h.tape,h.output,h.size,fun k hk _ => h.block k hk⟩
theorem Own.below {α : Type} {base : Nat} {e : TypeId} {n : Nat} {dec : World → List Value → α → Prop} {S : Nat → Prop} (hst : Stable S dec) {w w' : World} {v : Value} {xs : List α}
  (h : Own base e n dec w v xs) (hb : Below w.heap.size w w') : Own base e n dec w' v xs :=
 h.kept hst (qan hb) (by cases v.ownBlock <;> simp) (.of_below hb)
theorem Own.lt {α : Type} {base : Nat} {e : TypeId} {n : Nat} {dec : World → List Value → α → Prop} {w : World} {v : Value} {xs : List α} (h : Own base e n dec w v xs) :
  ∀ k,v.ownBlock = some k → base ≤ k ∧ k < w.heap.size := by obtain ⟨_,ho,_⟩ := h;exact ho.lt

theorem RSl.built {α : Type} {n : Nat} {dec : World → List Value → α → Prop} {w' : World} {g : Nat} {cs : List Value} {e : TypeId} {x : α} {lo : Nat} (hlo : lo ≤ g) (hg : w'.heap[g]? = some (.cells cs.toArray e (0,0))) (hl : cs.length = n) (h : dec w' cs x) :
  RSl (From lo) n dec w' (.slice (some ⟨g,0,none⟩) 1 1) [x] := by
 refine ⟨_,1,cs,rfl,by simp,by simp,Dec.single hl h,.inr ⟨g,0,rfl,hlo,fun j u hu => ?_⟩⟩
 rw [Nat.zero_add]
 have := cell_of_row w' g j cs.toArray e (0,0) hg
 rw [this]
 simpa using hu

section
variable {P : Program} (w : World)
theorem append_of_nil (base : Nat) (t ty e : TypeId) (i : TypeInfo) (size : Nat) (ht : P.underlying t = some (.slice e)) (hi : P.info? e = some i)
  (v : Value) (n : Nat) (xs : List Value) (hown : w.ownsRow base e size v n xs) (c : Nat) : (Builtin.append_ #[t,t] ty #[v,.slice none 0 c]).run P w = .ok v w := by
 rcases hown.2 with ⟨rfl,rfl⟩ | ⟨g,cap,cur,rfl,_,_,hnc,_⟩
 ·simp [Builtin.append_,run_underlying ht,sizeOf,typeInfo,hi,Builtin.lenOf,Builtin.firstCells]
 ·simp [Builtin.append_,run_underlying ht,sizeOf,typeInfo,hi,Builtin.lenOf,Builtin.firstCells,hnc,storeCells]

theorem run_append_rsl {α : Type} (base : Nat) (t ty e : TypeId) (i : TypeInfo) (z : Value) (size bytes : Nat) (ht : P.underlying t = some (.slice e)) (hi : P.info? e = some i) (hz : i.zero = some z)
  (hsize : i.size = size) (hby : i.bytes = bytes) (hzs : z.cells.size = size) (hsz : 0 < size)
  (S : Nat → Prop) (dec : World → List Value → α → Prop) (h1 : OneC dec)
  (v : Value) (n : Nat) (xs : List Value) (hown : w.ownsRow base e size v n xs) (u : Value) (ys : List α) (hu : RSl S size dec w u ys)
  (h63 : (n + ys.length) * bytes ≤ 140737488355328) (hby0 : 0 < bytes) (hbase : base ≤ w.heap.size) :
  ∃ v' w' news,(Builtin.append_ #[t,t] ty #[v,u]).run P w = .ok v' w' ∧ Dec size dec w news ys ∧ w'.ownsRow base e size v' (n + ys.length) (xs ++ news) ∧ w.grownBy w' v.ownBlock ∧
   (v'.ownBlock = v.ownBlock ∨ v'.ownBlock = some w.heap.size) := by
 obtain ⟨a,cap,cells,rfl,_,_,hd,hc⟩ := hu
 have hm : n + ys.length ≤ maxLen := by
  have := Nat.le_mul_of_pos_right (n + ys.length) hby0
  simp only [maxLen];omega
 rcases a with _ | ad
 ·have h0 : ys = [] := by
   rcases hc with hc | ⟨b,off,h,_⟩
   ·exact hc
   ·cases h
  subst h0
  have hn : cells = [] := List.eq_nil_of_length_eq_zero (by simpa using hd.1)
  subst hn
  exact ⟨v,w,[],append_of_nil w base t ty e i size ht hi v n xs hown cap,hd,by simpa using hown,⟨rfl,rfl,rfl,Nat.le_refl _,fun _ _ _ => rfl⟩,.inl rfl⟩
 ·have hcells : ∀ j u, cells[j]? = some u → w.cell? (ad.add j) = some u := by
   intro j u hu
   rcases hc with hc | ⟨b,off,h,_,hc⟩
   ·subst hc
    have hn : cells = [] := List.eq_nil_of_length_eq_zero (by simpa using hd.1)
    subst hn
    simp at hu
   ·injection h with h
    subst h
    have hadd : (⟨b,off,none⟩ : Addr).add j = ⟨b,off + j,none⟩ := by unfold Addr.add;split <;> simp_all
    rw [hadd]
    exact hc j u hu
  obtain ⟨v',w',hrun,h2,h3,_,h5⟩ := run_append_own_at (P := P) w base t ty e i z size bytes ht hi hz hsize hby hzs hsz v n xs hown ad ys.length cap cells hd.1 hcells (hd.one h1 hsz) hm h63 hbase
  exact ⟨v',w',cells,hrun,hd,h2,h3,h5⟩

theorem wp_app {α : Type} {z : Value} {size bytes : Nat} {o : Oper} {a : Act} {K : Act → World → Prop} {Q : Exit → Act → World → Prop} {e t : TypeId} (hinfo : (P.info? e).map (fun i => (i.zero,i.size,i.bytes)) = some (some z,size,bytes))
  {s x : Operand} (ho : o.op = .call { callee := .builtin .append,args := #[s,x],argTypes := #[t,t] }) (ht : P.underlying t = some (.slice e))
  (hzs : z.cells.size = size ∧ 0 < size ∧ 0 < bytes) {S T : Nat → Prop} {dec : World → List Value → α → Prop} (h1 : OneC dec) (hst : Stable T dec) (base : Nat)
  {v : Value} {xs : List α} (hown : Own base e size dec w v xs) (hs : a.eval s = v) {u : Value} {ys : List α} (hu : RSl S size dec w u ys) (hx : a.eval x = u)
  (h63 : (xs.length + ys.length) * bytes ≤ 140737488355328) (hbase : base ≤ w.heap.size)
  (h : ∀ a' c' w', w.grownBy w' v.ownBlock → ((Value.slice a' (xs ++ ys).length c').ownBlock = v.ownBlock ∨ (Value.slice a' (xs ++ ys).length c').ownBlock = some w.heap.size) → (Same T w w' → Own base e size dec w' (.slice a' (xs ++ ys).length c') (xs ++ ys)) →
   K (a.put o.dst (.slice a' (xs ++ ys).length c')) w') : o.wp P a w K Q := by
 obtain ⟨i,hi,hz,hsize,hby⟩ := info_parts hinfo
 obtain ⟨cells,hown,hd⟩ := hown
 obtain ⟨v',w',news,hrun,h2,h3,h4,h5⟩ := run_append_rsl (P := P) w base t o.type e i z size bytes ht hi hz hsize hby hzs.1 hzs.2.1 S dec h1 v xs.length cells hown u ys hu h63 hzs.2.2 hbase
 have hsh : ∃ a' c',v' = .slice a' (xs ++ ys).length c' := by
  rw [List.length_append]
  rcases h3.2 with ⟨rfl,h0⟩ | ⟨g,cap,cur,rfl,_⟩
  ·exact ⟨none,0,by rw [h0]⟩
  ·exact ⟨_,cap,rfl⟩
 obtain ⟨a',c',rfl⟩ := hsh
 unfold Oper.wp execOp
 simp only [ho,resolve,invoke,builtin,Sem.run_bind,Sem.run_pure,Result.andThen_ok,List.map_toArray,List.map_cons,List.map_nil,hs,hx,hrun]
 exact h a' c' w' h4 h5 fun hS => ⟨cells ++ news,by rw [List.length_append] at h3 ⊢;exact h3,(hd.append h2).same hst hS⟩

theorem wpList_app {α : Type} {z : Value} {size bytes : Nat} {ops : Array Oper} {rest : List Oper} {o : Oper} {a : Act} {Q : Exit → Act → World → Prop} {e t : TypeId} (hinfo : (P.info? e).map (fun i => (i.zero,i.size,i.bytes)) = some (some z,size,bytes))
  (hgd : o.guard = none) {s x : Operand} (ho : o.op = .call { callee := .builtin .append,args := #[s,x],argTypes := #[t,t] }) (ht : P.underlying t = some (.slice e))
  (hzs : z.cells.size = size ∧ 0 < size ∧ 0 < bytes) {S T : Nat → Prop} {dec : World → List Value → α → Prop} (h1 : OneC dec) (hst : Stable T dec) (base : Nat)
  {v : Value} {xs : List α} (hown : Own base e size dec w v xs) (hs : a.eval s = v) {u : Value} {ys : List α} (hu : RSl S size dec w u ys) (hx : a.eval x = u)
  (h63 : (xs.length + ys.length) * bytes ≤ 140737488355328) (hbase : base ≤ w.heap.size)
  (h : ∀ a' c' w', w.grownBy w' v.ownBlock → ((Value.slice a' (xs ++ ys).length c').ownBlock = v.ownBlock ∨ (Value.slice a' (xs ++ ys).length c').ownBlock = some w.heap.size) → (Same T w w' → Own base e size dec w' (.slice a' (xs ++ ys).length c') (xs ++ ys)) →
   wpList P ops Q rest (a.put o.dst (.slice a' (xs ++ ys).length c')) w') : wpList P ops Q (o :: rest) a w :=
 wpList_plain hgd fun _ hK => wp_app w hinfo ho ht hzs h1 hst base hown hs hu hx h63 hbase fun a' c' w' h2 h3 h4 => hK _ _ (h a' c' w' h2 h3 h4)

end
end

section
open Go Go.RowKit Go.Deep

theorem list_of {α : Type} {n : Nat} {p : Nat → α → Prop} (h : ∀ i,i < n → ∃ x,p i x) : ∃ xs : List α,xs.length = n ∧ ∀ i (hi : i < xs.length),p i xs[i] := by
 induction n with
 | zero => exact ⟨[],rfl,fun i hi => by simp at hi⟩
 | succ n ih =>
  obtain ⟨xs,hl,hx⟩ := ih (fun i hi => h i (by omega))
  obtain ⟨x,hp⟩ := h n (by omega)
  refine ⟨xs ++ [x],by simp [hl],fun i hi => ?_⟩
  rw [List.getElem_append]
  split
  ·exact hx i _
  ·have : i = n := by simp at hi; omega
   subst this
   simpa [hl] using hp
theorem Dec.flat {α : Type} {n : Nat} {dec : World → List Value → α → Prop} {w : World} : ∀ (zs : List (List Value × α)),(∀ z ∈ zs,z.1.length = n ∧ dec w z.1 z.2) → Dec n dec w (zs.map (·.1)).flatten (zs.map (·.2))
 | [],_ => Dec.nil _ _ _
 | z :: zs,h => Dec.append (cs := z.1) (xs := [z.2]) (Dec.single (h z (by simp)).1 (h z (by simp)).2) (Dec.flat zs (fun y hy => h y (by simp [hy])))
theorem add_none (b off k : Nat) : (⟨b,off,none⟩ : Addr).add k = ⟨b,off + k,none⟩ := by unfold Addr.add;split <;> simp_all

section
variable {H : Type} {enc : TypeId × Value → H} {P : Program} {w : World} {base : Nat} {spare : Nat → Bool} {held : Bool}
theorem weights_all {e : TypeId} {m : Nat} {d : DataW H} (hm : m ∈ d.weights P e) : ∀ {l : List (DataW H)},d ∈ l → m ∈ DataW.weightsAll P e l
 | x :: l,hd => by
  simp only [DataW.weightsAll,List.mem_append]
  rcases List.mem_cons.1 hd with rfl | hd
  ·exact .inl hm
  ·exact .inr (weights_all hm hd)
theorem rsl_of_trod {α : Type} {dec : World → List Value → α → Prop} {t e : TypeId} {n : Nat} (ht : P.underlying t = some (.slice e)) (hc : P.cellsOf e = n) (hn : 0 < n) (hb : 0 < P.bytesOf e) {fuel : Nat} {cs : List Value} {x : DataW H × List MemPlace}
  (h : DataW.trod enc P w base spare held fuel t cs = some x) (hz : ∀ m ∈ x.1.weights P t,m ≤ reachBytes)
  (hd : ∀ k cs y,DataW.trod enc P w base spare held k e cs = some y → (∀ m ∈ y.1.weights P e,m ≤ reachBytes) → ∃ a,dec w cs a) :
  ∃ v xs,cs = [v] ∧ RSl Any n dec w v xs := by
 subst hc
 rcases open_slice ht h with ⟨rfl,rfl⟩ | ⟨a,len,cap,m,k,D,Pl,rfl,-,hl,-,hm,rfl,hx⟩
 ·exact ⟨_,[],rfl,RSl.nil⟩
 have hlm : len ≤ m := by rw [hm];split <;> omega
 have hw : len ≤ 140737488355328 := by
  have h1 := hz ((((List.range len).map D).length + ((List.range (m - len)).map fun j => D (len + j)).length) * P.bytesOf e) (by simp [DataW.weights,ht])
  have h2 := Nat.le_mul_of_pos_right (((List.range len).map D).length + ((List.range (m - len)).map fun j => D (len + j)).length) hb
  simp only [List.length_map,List.length_range] at h1 h2
  have : reachBytes = 140737488351232 := by decide
  omega
 obtain ⟨zs,hzl,hzs⟩ := list_of (α := List Value × α) (n := len) (p := fun i z => z.1.length = P.cellsOf e ∧ (∀ r,r < P.cellsOf e → w.cell? ((a.add (i * P.cellsOf e)).add r) = z.1[r]?) ∧ dec w z.1 z.2) (fun i hi => by
  obtain ⟨cs',h1,h2⟩ := hx i (by omega)
  obtain ⟨_,hl1,hc1⟩ := World.cells?_some h1
  obtain ⟨y,hy⟩ := hd _ _ _ h2 (fun q hq => hz q (by
   simp only [DataW.weights,ht,List.mem_cons,List.mem_append]
   exact .inr (.inl (weights_all hq (List.mem_map.2 ⟨i,by simpa using hi,rfl⟩)))))
  exact ⟨(cs',y),hl1,hc1,hy⟩)
 have hD := Dec.flat (dec := dec) (w := w) (n := P.cellsOf e) zs (fun z hz' => by
  obtain ⟨i,hi,rfl⟩ := List.getElem_of_mem hz'
  exact ⟨(hzs i hi).1,(hzs i hi).2.2⟩)
 have hE := Dec.flat (dec := fun _ cs (z : List Value × α) => cs = z.1) (w := w) (n := P.cellsOf e) (zs.map fun z => (z.1,z)) (fun z hz' => by
  obtain ⟨z2,hz2,rfl⟩ := List.mem_map.1 hz'
  obtain ⟨i,hi,rfl⟩ := List.getElem_of_mem hz2
  exact ⟨(hzs i hi).1,rfl⟩)
 simp only [List.map_map,Function.comp_def,List.map_id'] at hE
 refine ⟨_,zs.map (·.2),rfl,some a,cap,(zs.map (·.1)).flatten,by simp [hzl],by simpa [hzl] using hl,by simpa [hzl] using hw,hD,?_⟩
 rcases Nat.eq_zero_or_pos len with h0 | h0
 ·refine .inl ?_
  have : zs = [] := List.eq_nil_of_length_eq_zero (by omega)
  rw [this];rfl
 obtain ⟨b,off,spot⟩ := a
 have hsp : spot = none := by
  have h1 := (hzs 0 (by omega)).2.1 0 hn
  rw [Nat.zero_mul] at h1
  have h2 : (zs[0]'(by omega)).1[0]? = some ((zs[0]'(by omega)).1[0]'(by rw [(hzs 0 (by omega)).1];exact hn)) := List.getElem?_eq_getElem _
  rw [h2] at h1
  simpa [Addr.add] using World.cell?_spot h1
 subst hsp
 refine .inr ⟨b,off,rfl,trivial,fun j u hu => ?_⟩
 have hj : j < zs.length * P.cellsOf e := by
  have h1 := (List.getElem?_eq_some_iff.1 hu).1
  have h2 := hD.1
  rw [List.length_map] at h2
  omega
 have hi : j / P.cellsOf e < zs.length := by rw [Nat.div_lt_iff_lt_mul hn];exact hj
 have hr : j % P.cellsOf e < P.cellsOf e := Nat.mod_lt _ hn
 have hjr : j / P.cellsOf e * P.cellsOf e + j % P.cellsOf e = j := by rw [Nat.mul_comm];exact Nat.div_add_mod j _
 have h1 := hE.2 (j / P.cellsOf e) hi
 have h2 := (hzs (j / P.cellsOf e) hi).2.1 _ hr
 rw [add_none,add_none,Nat.add_assoc,hjr] at h2
 rw [h2,← h1,List.getElem?_take_of_lt hr,List.getElem?_drop,hjr]
 exact hu
theorem int_of_trod {t : TypeId} {k : IntKind} (ht : P.underlying t = some (.int k)) {fuel : Nat} {cs : List Value} {x : DataW H × List MemPlace} (h : DataW.trod enc P w base spare held fuel t cs = some x) : ∃ a,dInt k w cs a := by
 obtain ⟨n,rfl,_,hw⟩ := DataW.trod_int ht h
 exact ⟨n,rfl,hw⟩
end
end

section
open Go Go.RowKit

theorem RSl.take {α : Type} {S : Nat → Prop} {n : Nat} {dec : World → List Value → α → Prop} {w : World} {a : Option Addr} {m cap : Nat} {xs : List α} (h : RSl S n dec w (.slice a m cap) xs) (k : Nat) (hk : k ≤ xs.length) :
  RSl S n dec w (.slice a k cap) (xs.take k) := by
 obtain ⟨a',cap',cells,hv,h1,h2,h3,h4⟩ := h
 simp only [Value.slice.injEq] at hv
 obtain ⟨rfl,_,rfl⟩ := hv
 have hl : (xs.take k).length = k := by simp;omega
 refine ⟨a,cap,cells.take (k * n),by rw [hl],by omega,by omega,⟨by rw [List.length_take,hl,h3.1];exact Nat.min_eq_left (Nat.mul_le_mul_right _ hk),fun i hi => ?_⟩,?_⟩
 ·rw [hl] at hi
  rw [List.getElem_take]
  have hkn : i * n + n ≤ k * n := by rw [← Nat.succ_mul];exact Nat.mul_le_mul_right _ hi
  have : ((cells.take (k * n)).drop (i * n)).take n = (cells.drop (i * n)).take n := by
   rw [List.drop_take,List.take_take,Nat.min_eq_left (by omega)]
  rw [this]
  exact h3.2 i (by omega)
 ·rcases h4 with h4 | ⟨b, off, ha, hS, hc⟩
  ·exact .inl (by rw [h4];simp)
  ·refine .inr ⟨b, off, ha, hS, fun j u hu => hc j u ?_⟩
   rw [List.getElem?_take] at hu
   split at hu
   ·exact hu
   ·cases hu

theorem RSl.cap {α : Type} {S : Nat → Prop} {n : Nat} {dec : World → List Value → α → Prop} {w : World} {a : Option Addr} {m cap : Nat} {xs : List α} (h : RSl S n dec w (.slice a m cap) xs) : xs.length ≤ cap := by
 obtain ⟨_,_,_,hv,h1,_⟩ := h
 simp only [Value.slice.injEq] at hv
 omega
end

section
open Go Go.RowKit

structure Ex where
 d : Nat
 os : Array Obj
 deriving Inhabited
def ext (w : World) (p : Ex) : World := { w with heap := w.heap ++ p.os,drawn := p.d }
theorem qa4 (w : World) (p : Ex) : Below w.heap.size w (ext w p) :=
 ⟨rfl,rfl,rfl,by simp [ext],fun k hk => by simp only [ext];rw [Array.getElem?_append_left hk]⟩
theorem ext_of_below {w w' : World} (h : Below w.heap.size w w') : ∃ p,w' = ext w p := by
 refine ⟨⟨w'.drawn,w'.heap.extract w.heap.size w'.heap.size⟩,?_⟩
 have hh : w'.heap = w.heap ++ w'.heap.extract w.heap.size w'.heap.size := by
  apply Array.ext_getElem?
  intro i
  by_cases hi : i < w.heap.size
  ·rw [Array.getElem?_append_left hi];exact h.block i hi
  ·rw [Array.getElem?_append_right (by omega)]
   have := h.size
   by_cases h2 : i < w'.heap.size
   ·rw [Array.getElem?_extract_of_lt (by omega)]
    have : w.heap.size + (i - w.heap.size) = i := by omega
    simp only [this]
    exact Array.getElem?_eq_getElem h2
   ·rw [Array.getElem?_eq_none (by omega),Array.getElem?_eq_none (by simp;omega)]
 cases w' with
 | mk heap tape drawn os output =>
  simp only [ext] at hh ⊢
  have e1 := h.os;have e2 := h.tape;have e3 := h.output
  simp only at e1 e2 e3
  subst e1;subst e2;subst e3
  rw [← hh]
theorem qa7 {w : World} {a : Addr} {v : Value} (h : w.cell? a = some v) (p : Ex) : (ext w p).cell? a = some v := by
 rw [(qa4 w p).cell (World.block_lt_of_cell? w a h)];exact h
theorem qa3 {P : Program} {id : Nat} {Q : Exit → Act → World → Prop} {a : Act} {w : World} {l : List Oper} (hm : P.follows .mixedOrders = true) (hB : Region.lexB .any l.toArray = true)
  (h : wpQuiet P l.toArray (fun w' => ∃ p : Ex,w' = ext w p) (fun a' => ∀ w',(∃ p : Ex,w' = ext w p) → Q .normal a' w') l a) : (Code.region id l.toArray true).wp P Q a w :=
 wp_region_quiet (C := fun w' => ∃ p : Ex,w' = ext w p) hm hB ⟨⟨w.drawn + 1,#[]⟩,by simp [ext]⟩ (by simpa using h)
theorem qab {P : Program} {f : FuncId} {args : Array Value} {w : World} {p : Ex} {v : Value}
  (h : Calls P f args (ext w p) fun e w' => e = .returned v ∧ Below (ext w p).heap.size (ext w p) w') : Calls P f args (ext w p) fun e w'' => e = .returned v ∧ ∃ q : Ex,w'' = ext w q :=
 h.mono fun _ _ ⟨he,hb⟩ => ⟨he,ext_of_below ((qa4 w p).trans (hb.mono (qa4 w p).size))⟩
theorem calls_ext' {P : Program} {f : FuncId} {args : Array Value} {w : World} {p : Ex} {v : Value}
  (h : Calls P f args (ext w p) fun e w' => e = .returned v ∧ ext w p = w') : Calls P f args (ext w p) fun e w'' => e = .returned v ∧ ∃ q : Ex,w'' = ext w q :=
 h.mono fun _ _ ⟨he,hb⟩ => ⟨he,p,hb.symm⟩
end

section
open Go Go.RowKit

def Soft (w : World) (b : Nat) : Prop := ∃ cur e,w.heap[b]? = some (.cells cur e (0,0))
def Wr (w : World) (v : Value) : Prop := ∀ b o n c,v = .slice (some ⟨b,o,none⟩) n c → n ≠ 0 → Soft w b
theorem Soft.frozen {w : World} {b : Nat} (h : Soft w b) (o : Nat) : w.frozen? ⟨b,o,none⟩ = false := by
 obtain ⟨cur,e,h⟩ := h
 simp [World.frozen?,h]
theorem Soft.setCell {w : World} {b : Nat} (h : Soft w b) (g o : Nat) (u : Value) : Soft (w.setCell ⟨g,o,none⟩ u) b := by
 obtain ⟨cur,e,h⟩ := h
 by_cases hp : g = b
 ·exact ⟨cur.setIfInBounds o u,e,by simp [World.setCell,Array.getElem?_modify,h,hp]⟩
 ·exact ⟨cur,e,by rw [Below.heap_setCell w ⟨g,o,none⟩ u b (fun e => hp e.symm)];exact h⟩
theorem Soft.same {S : Nat → Prop} {w w' : World} {b : Nat} (hs : Same S w w') (hb : S b) (h : Soft w b) : Soft w' b := by
 obtain ⟨cur,e,h⟩ := h
 exact ⟨cur,e,(hs b (qa0 h) hb).trans h⟩
def WSl {α : Type} (S : Nat → Prop) (n : Nat) (dec : World → List Value → α → Prop) (w : World) (v : Value) (xs : List α) : Prop := RSl S n dec w v xs ∧ Wr w v
theorem WSl.same {α : Type} {S : Nat → Prop} {n : Nat} {dec : World → List Value → α → Prop} (hst : Stable S dec) {w w' : World} {v : Value} {xs : List α} (hs : Same S w w') (h : WSl S n dec w v xs) : WSl S n dec w' v xs := by
 refine ⟨RSl.same hst hs h.1,fun b o m c hv hm => ?_⟩
 obtain ⟨a,cap,cells,hv',h1,h2,h3,h4⟩ := h.1
 rw [hv] at hv'
 simp only [Value.slice.injEq] at hv'
 rcases h4 with h4 | ⟨b',off,ha,hS,_⟩
 ·exact absurd (hv'.2.1.trans (by rw [h4];rfl)) hm
 ·have : b = b' := by have := hv'.1.trans ha; simp at this; exact this.1
  exact (h.2 b o m c hv hm).same hs (this ▸ hS)
theorem WSl.mono {α : Type} {S T : Nat → Prop} {n : Nat} {dec dec' : World → List Value → α → Prop} (hd : ∀ w cs x,dec w cs x → dec' w cs x) (hT : ∀ b,S b → T b)
  {w : World} {v : Value} {xs : List α} (h : WSl S n dec w v xs) : WSl T n dec' w v xs := ⟨RSl.mono hd hT h.1,h.2⟩
theorem WSl.cut {α : Type} {S : Nat → Prop} {n : Nat} {dec dec' : World → List Value → α → Prop} {w : World} {v : Value} {xs : List α} (hn : 0 < n) (hd : ∀ cs x,dec w cs x → dec' w cs x) (h : WSl S n dec w v xs) : WSl (Cut S w.heap.size) n dec' w v xs :=
 ⟨RSl.cut hn hd h.1,h.2⟩
theorem WSl.nil {α : Type} {S : Nat → Prop} {n : Nat} {dec : World → List Value → α → Prop} {w : World} : WSl S n dec w (.slice none 0 0) ([] : List α) := ⟨RSl.nil,fun _ _ _ _ h => by simp at h⟩
def wBlt (S : Nat → Prop) (w : World) (cs : List Value) (x : Blt) : Prop := ∃ v,cs = [.int .u8 x.kind,v] ∧ 0 ≤ x.kind ∧ x.kind ≤ 255 ∧ WSl S 1 (dInt .i64) w v x.marks
def wBtc (S : Nat → Prop) (w : World) (cs : List Value) (x : Btc) : Prop := ∃ v,cs = [.string x.name,v] ∧ x.name.size ≤ 140737488355328 ∧ WSl S 2 (wBlt S) w v x.blts
theorem wBlt.toD {S : Nat → Prop} {w : World} {cs : List Value} {x : Blt} (h : wBlt S w cs x) : dBlt S w cs x := let ⟨v,h1,h2,h3,h4⟩ := h;⟨v,h1,h2,h3,h4.1⟩
theorem wBtc.toD {S : Nat → Prop} {w : World} {cs : List Value} {x : Btc} (h : wBtc S w cs x) : dBtc S w cs x := let ⟨v,h1,h2,h3⟩ := h;⟨v,h1,h2,RSl.mono (fun _ _ _ h => h.toD) (fun _ h => h) h3.1⟩
theorem wBlt.mono {S T : Nat → Prop} {w : World} {cs : List Value} {x : Blt} (hT : ∀ b,S b → T b) (h : wBlt S w cs x) : wBlt T w cs x := let ⟨v,h1,h2,h3,h4⟩ := h;⟨v,h1,h2,h3,WSl.mono (fun _ _ _ h => h) hT h4⟩
theorem wBtc.mono {S T : Nat → Prop} {w : World} {cs : List Value} {x : Btc} (hT : ∀ b,S b → T b) (h : wBtc S w cs x) : wBtc T w cs x := let ⟨v,h1,h2,h3⟩ := h;⟨v,h1,h2,WSl.mono (fun _ _ _ h => h.mono hT) hT h3⟩
theorem wBlt.stable (S : Nat → Prop) : Stable S (wBlt S) := fun _ _ _ _ hs ⟨v,h1,h2,h3,h4⟩ => ⟨v,h1,h2,h3,h4.same (dInt.stable S _) hs⟩
theorem wBtc.stable (S : Nat → Prop) : Stable S (wBtc S) := fun _ _ _ _ hs ⟨v,h1,h2,h3⟩ => ⟨v,h1,h2,h3.same (wBlt.stable S) hs⟩
theorem wBlt.cut {S : Nat → Prop} {w : World} {cs : List Value} {x : Blt} (h : wBlt S w cs x) : wBlt (Cut S w.heap.size) w cs x := let ⟨v,h1,h2,h3,h4⟩ := h;⟨v,h1,h2,h3,WSl.cut (by omega) (fun _ _ h => h) h4⟩
theorem wBtc.cut {S : Nat → Prop} {w : World} {cs : List Value} {x : Btc} (h : wBtc S w cs x) : wBtc (Cut S w.heap.size) w cs x := let ⟨v,h1,h2,h3⟩ := h;⟨v,h1,h2,WSl.cut (by omega) (fun _ _ h => h.cut) h3⟩
theorem wBlt.one (S : Nat → Prop) : OneC (wBlt S) := fun w cs x h => dBlt.one S w cs x h.toD
theorem wBtc.one (S : Nat → Prop) : OneC (wBtc S) := fun w cs x h => dBtc.one S w cs x h.toD
def WBtcs (S : Nat → Prop) (w : World) (v : Value) (xs : List Btc) : Prop := WSl S 2 (wBtc S) w v xs
theorem WBtcs.same {S : Nat → Prop} {w w' : World} {v : Value} {xs : List Btc} (hs : Same S w w') (h : WBtcs S w v xs) : WBtcs S w' v xs := WSl.same (wBtc.stable S) hs h
end

section
open Go Go.RowKit

structure Fam {α : Type} (dec : (Nat → Prop) → World → List Value → α → Prop) : Prop where
 mono : ∀ {S T : Nat → Prop} {w : World} {cs : List Value} {x : α},(∀ b,S b → T b) → dec S w cs x → dec T w cs x
 stable : ∀ S,Stable S (dec S)
 one : ∀ S,OneC (dec S)
theorem famInt (k : IntKind) : Fam (fun _ => dInt k) := ⟨fun _ h => h,fun S => dInt.stable S k,fun _ => dInt.one k⟩
def Rg (base : Nat) (w : World) (v : Value) : Nat → Prop := fun b => base ≤ b ∧ b < w.heap.size ∧ some b ≠ v.ownBlock
def OwnX {α : Type} (base : Nat) (e : TypeId) (n : Nat) (dec : (Nat → Prop) → World → List Value → α → Prop) (w : World) (v : Value) (xs : List α) : Prop :=
 Own base e n (dec (Rg base w v)) w v xs
theorem OwnX.nil {α : Type} (base : Nat) (e : TypeId) (n : Nat) (dec : (Nat → Prop) → World → List Value → α → Prop) (w : World) : OwnX base e n dec w (.slice none 0 0) ([] : List α) := Own.nil _ _ _ _ _
theorem Own.dmono {α : Type} {base : Nat} {e : TypeId} {n : Nat} {d d' : World → List Value → α → Prop} {w : World} {v : Value} {xs : List α} (hd : ∀ cs x,d w cs x → d' w cs x) (h : Own base e n d w v xs) : Own base e n d' w v xs := by
 obtain ⟨cells,ho,h1,h2⟩ := h
 exact ⟨cells,ho,h1,fun i hi => hd _ _ (h2 i hi)⟩
theorem OwnX.below {α : Type} {base : Nat} {e : TypeId} {n : Nat} {dec : (Nat → Prop) → World → List Value → α → Prop} (F : Fam dec) {w w' : World} {v : Value} {xs : List α} (h : OwnX base e n dec w v xs) (hb : Below w.heap.size w w') : OwnX base e n dec w' v xs :=
 Own.dmono (fun _ _ hd => F.mono (fun _ hb' => ⟨hb'.1,Nat.lt_of_lt_of_le hb'.2.1 hb.size,hb'.2.2⟩) hd) (Own.below (F.stable _) h hb)
theorem OwnX.shape {α : Type} {base : Nat} {e : TypeId} {n : Nat} {dec : (Nat → Prop) → World → List Value → α → Prop} {w : World} {v : Value} {xs : List α} (h : OwnX base e n dec w v xs) : ∃ a cap,v = .slice a xs.length cap := Own.shape h
def Span (lo hi : Nat) : Nat → Prop := fun b => lo ≤ b ∧ b < hi
theorem OwnX.rsl {α : Type} {base : Nat} {e : TypeId} {n : Nat} {dec : (Nat → Prop) → World → List Value → α → Prop} (F : Fam dec) {w : World} {v : Value} {xs : List α} (hn : 0 < n) (h : OwnX base e n dec w v xs) (hl : xs.length ≤ 140737488355328) :
  RSl (Span base w.heap.size) n (dec (Span base w.heap.size)) w v xs := by
 have h1 : RSl (From base) n (dec (Span base w.heap.size)) w v xs := Own.rsl (Own.dmono (fun _ _ hd => F.mono (fun b hb => ⟨hb.1,hb.2.1⟩) hd) h) hl
 exact RSl.mono (fun _ _ _ h => h) (fun b hb => ⟨hb.1,hb.2⟩) (RSl.cut hn (fun _ _ h => h) h1)

theorem OwnX.setCell {α : Type} {base : Nat} {e : TypeId} {n : Nat} {dec : (Nat → Prop) → World → List Value → α → Prop} (F : Fam dec) {w : World} {v : Value} {xs : List α} (h : OwnX base e n dec w v xs) {p : Addr} (hp : p.block < base) (u : Value) : OwnX base e n dec (w.setCell p u) v xs := by
 obtain ⟨cells,ho,hd⟩ := h
 refine ⟨cells,ownsRow_setCell_below ho hp u,?_⟩
 refine ⟨hd.1,fun i hi => F.mono (fun b hb => ⟨hb.1,by simpa [World.setCell] using hb.2.1,hb.2.2⟩) (F.stable _ _ _ _ _ ((Same.refl _ w).setCell (fun hb => by have := hb.1;omega) u) (hd.2 i hi))⟩
theorem qa2 {w : World} {g o : Nat} {cs : Array Value} {e : TypeId} {fr : Nat × Nat} (h : w.heap[g]? = some (.cells cs e fr)) (u : Value) : (w.setCell ⟨g,o,none⟩ u).heap[g]? = some (.cells (cs.setIfInBounds o u) e fr) := by
 simp [World.setCell,Array.getElem?_modify,h]
theorem qai (w : World) (p : Addr) (u : Value) : (w.setCell p u).heap.size = w.heap.size := by simp [World.setCell]

theorem qa1 (w : World) (o : Obj) : Below w.heap.size w (w.alloc o) := (Below.refl _ _).alloc (Nat.le_refl _) _
theorem qax {w w' : World} {g : Nat} {o : Obj} (hb : Below w.heap.size w w') (h : w.heap[g]? = some o) : w'.heap[g]? = some o := (hb.block g (qa0 h)).trans h
section
variable {P : Program} (w : World)
theorem wp_appX {α : Type} {z : Value} {size bytes : Nat} {o : Oper} {a : Act} {K : Act → World → Prop} {Q : Exit → Act → World → Prop} {e t : TypeId} (hinfo : (P.info? e).map (fun i => (i.zero,i.size,i.bytes)) = some (some z,size,bytes))
  {s x : Operand} (ho : o.op = .call { callee := .builtin .append,args := #[s,x],argTypes := #[t,t] }) (ht : P.underlying t = some (.slice e))
  (hzs : z.cells.size = size ∧ 0 < size ∧ 0 < bytes) {dec : (Nat → Prop) → World → List Value → α → Prop} (F : Fam dec) (base : Nat)
  {v : Value} {xs : List α} (hown : OwnX base e size dec w v xs) (hs : a.eval s = v) {g : Nat} {cs : List Value} {y : α} (hg : w.heap[g]? = some (.cells cs.toArray e (0,0))) (hl : cs.length = size) (hy : dec (Rg base w v) w cs y)
  (hx : a.eval x = .slice (some ⟨g,0,none⟩) 1 1)
  (h63 : (xs.length + 1) * bytes ≤ 140737488355328) (hbase : base ≤ w.heap.size)
  (h : ∀ a' n' c' w', w.grownBy w' v.ownBlock → OwnX base e size dec w' (.slice a' n' c') (xs ++ [y]) →
   K (a.put o.dst (.slice a' n' c')) w') : o.wp P a w K Q := by
 refine wp_app w hinfo ho ht hzs (F.one (Rg base w v)) (F.stable (Rg base w v)) base hown hs (RSl.built (lo := 0) (Nat.zero_le _) hg hl hy) hx (by simpa using h63) hbase ?_
 intro a' c' w' hgr hat hO
 refine h a' _ c' w' hgr ?_
 have hO' := hO (.of_grown hgr (fun b hb => hb.2.2))
 refine Own.dmono (fun cs x hd => F.mono (fun b hb => ⟨hb.1,Nat.lt_of_lt_of_le hb.2.1 hgr.size,?_⟩) hd) hO'
 rcases hat with e | e
 ·rw [e];exact hb.2.2
 ·rw [e];have := hb.2.1;intro h;injection h with h;omega
theorem wpList_appX {α : Type} {z : Value} {size bytes : Nat} {ops : Array Oper} {rest : List Oper} {o : Oper} {a : Act} {Q : Exit → Act → World → Prop} {e t : TypeId} (hinfo : (P.info? e).map (fun i => (i.zero,i.size,i.bytes)) = some (some z,size,bytes))
  (hgd : o.guard = none) {s x : Operand} (ho : o.op = .call { callee := .builtin .append,args := #[s,x],argTypes := #[t,t] }) (ht : P.underlying t = some (.slice e))
  (hzs : z.cells.size = size ∧ 0 < size ∧ 0 < bytes) {dec : (Nat → Prop) → World → List Value → α → Prop} (F : Fam dec) (base : Nat)
  {v : Value} {xs : List α} (hown : OwnX base e size dec w v xs) (hs : a.eval s = v) {g : Nat} {cs : List Value} {y : α} (hg : w.heap[g]? = some (.cells cs.toArray e (0,0))) (hl : cs.length = size) (hy : dec (Rg base w v) w cs y)
  (hx : a.eval x = .slice (some ⟨g,0,none⟩) 1 1)
  (h63 : (xs.length + 1) * bytes ≤ 140737488355328) (hbase : base ≤ w.heap.size)
  (h : ∀ a' n' c' w', w.grownBy w' v.ownBlock → OwnX base e size dec w' (.slice a' n' c') (xs ++ [y]) →
   wpList P ops Q rest (a.put o.dst (.slice a' n' c')) w') : wpList P ops Q (o :: rest) a w :=
 wpList_plain hgd fun _ hK => wp_appX w hinfo ho ht hzs F base hown hs hg hl hy hx h63 hbase fun a' n' c' w' h1 h2 => hK _ _ (h a' n' c' w' h1 h2)
end
end

section
open Go Go.RowKit

structure Sp where
 x : Btc
 lo : Nat
 hi : Nat
def InRow (lo hi : Nat) (v : Value) : Nat → Prop := fun b => lo ≤ b ∧ b < hi ∧ some b ≠ v.ownBlock
def dSep (T : Nat → Prop) (w : World) (cs : List Value) (y : Sp) : Prop :=
 (∀ b, y.lo ≤ b → b < y.hi → T b) ∧ ∃ v, cs = [.string y.x.name, v] ∧ y.x.name.size ≤ 140737488355328 ∧ y.x.blts.length ≤ 140737488355328 ∧ (∀ g, v.ownBlock = some g → g < y.hi) ∧
  Own y.lo 61 2 (wBlt (InRow y.lo y.hi v)) w v y.x.blts
theorem Own.same {α : Type} {base : Nat} {e : TypeId} {n : Nat} {dec : World → List Value → α → Prop} {S : Nat → Prop} (hst : Stable S dec) {w w' : World} {v : Value} {xs : List α}
  (h : Own base e n dec w v xs) (hs : Same S w w') (hv : ∀ g,v.ownBlock = some g → S g) : Own base e n dec w' v xs := by
 obtain ⟨cells,ho,hd⟩ := h
 refine ⟨cells,⟨ho.1,?_⟩,hd.same hst hs⟩
 rcases ho.2 with h0 | ⟨g,cap,cur,rfl,h1,h2,h3⟩
 ·exact .inl h0
 ·exact .inr ⟨g,cap,cur,rfl,h1,(hs g (qa0 h2) (hv g rfl)).trans h2,h3⟩
theorem Dec.map {α β : Type} {n : Nat} {dec : World → List Value → α → Prop} {dec' : World → List Value → β → Prop} (f : α → β) {w : World} (hd : ∀ cs x,dec w cs x → dec' w cs (f x)) {cells : List Value} {xs : List α} (h : Dec n dec w cells xs) :
  Dec n dec' w cells (xs.map f) := ⟨by simpa using h.1,fun i hi => by rw [List.getElem_map];exact hd _ _ (h.2 i (by simpa using hi))⟩
theorem WSl.map {α β : Type} {S : Nat → Prop} {n : Nat} {dec : World → List Value → α → Prop} {dec' : World → List Value → β → Prop} (f : α → β) {w : World} (hd : ∀ cs x,dec w cs x → dec' w cs (f x)) {v : Value} {xs : List α} (h : WSl S n dec w v xs) :
  WSl S n dec' w v (xs.map f) := by
 obtain ⟨⟨a,cap,cells,hv,k1,k2,k3,k4⟩,hw⟩ := h
 refine ⟨⟨a,cap,cells,by simpa using hv,by simpa using k1,by simpa using k2,k3.map f hd,?_⟩,hw⟩
 rcases k4 with k4 | k4
 ·exact .inl (by rw [k4];rfl)
 ·exact .inr k4
theorem dSep.built {T : Nat → Prop} {w : World} {lo : Nat} {v : Value} {x : Btc} (hT : ∀ b,lo ≤ b → b < w.heap.size → T b) (hn : x.name.size ≤ 140737488355328) (hl : x.blts.length ≤ 140737488355328) (h : OwnX lo 61 2 wBlt w v x.blts) :
  dSep T w [.string x.name,v] ⟨x,lo,w.heap.size⟩ :=
 ⟨hT,v,rfl,hn,hl,fun g hg => (Own.lt h g hg).2,h⟩
end

section
open Go Go.RowKit

theorem take2 (cells : List Value) (i : Nat) (h : i * 2 + 1 < cells.length) : (cells.drop (i * 2)).take 2 = [cells[i * 2],cells[i * 2 + 1]] := by
 rw [List.drop_eq_getElem_cons (by omega),List.drop_eq_getElem_cons h,List.take_succ_cons,List.take_succ_cons,List.take_zero]
theorem Own.put2 {α : Type} {base : Nat} {e : TypeId} {dec dec' : World → List Value → α → Prop} {w w' : World} {g n cap : Nat} {xs : List α} (h : Own base e 2 dec w (.slice (some ⟨g,0,none⟩) n cap) xs)
  {k : Nat} (hk : k < xs.length) {c u : Value} {y : α}
  (hb : ∀ cur,w.heap[g]? = some (.cells cur e (0,0)) → cur.size = cap * 2 → ∃ cur',w'.heap[g]? = some (.cells cur' e (0,0)) ∧ cur'.size = cur.size ∧ (k * 2 + 1 < cur.size → cur'[k * 2]? = some c ∧ cur'[k * 2 + 1]? = some u) ∧ ∀ j,j ≠ k * 2 → j ≠ k * 2 + 1 → cur'[j]? = cur[j]?)
  (hy : dec' w' [c,u] y) (hr : ∀ i (hi : i < xs.length),i ≠ k → ∀ cs,dec w cs xs[i] → dec' w' cs xs[i]) :
  Own base e 2 dec' w' (.slice (some ⟨g,0,none⟩) n cap) (xs.set k y) := by
 obtain ⟨cells,ho,hd⟩ := h
 rcases ho.2 with ⟨h1,h0⟩ | ⟨g',cap',cur,h1,h2,h3,h4,h5,h6,h7⟩
 ·cases h1
 simp only [Value.slice.injEq,Option.some.injEq,Addr.mk.injEq,and_true] at h1
 obtain ⟨rfl,hn,rfl⟩ := h1
 obtain ⟨cur',k1,k2,k3,k4⟩ := hb cur h3 h6
 have hlen := hd.1
 have hsz : k * 2 + 1 < cur.size := by omega
 obtain ⟨k5,k6⟩ := k3 hsz
 have hget : ∀ j,j < xs.length * 2 → (cur'.toList.take (xs.length * 2))[j]? = cur'[j]? := by
  intro j hj;rw [List.getElem?_take_of_lt hj];simp
 have hget0 : ∀ j,j < xs.length * 2 → cells[j]? = cur[j]? := by
  intro j hj;rw [← h7,List.getElem?_take_of_lt hj];simp
 have hl' : (cur'.toList.take (xs.length * 2)).length = xs.length * 2 := by rw [List.length_take];simp;omega
 refine ⟨cur'.toList.take (xs.length * 2),⟨by rw [List.length_set,hl'],.inr ⟨g,cap,cur',by rw [List.length_set];simp [hn],h2,k1,by rw [List.length_set];exact h4,h5,by omega,by rw [List.length_set]⟩⟩,⟨by rw [List.length_set,hl'],fun i hi => ?_⟩⟩
 rw [List.length_set] at hi
 have hi2 : i * 2 + 1 < (cur'.toList.take (xs.length * 2)).length := by omega
 rw [take2 _ _ hi2]
 by_cases hik : i = k
 ·subst hik
  have e1 : (cur'.toList.take (xs.length * 2))[i * 2] = c := by
   have := hget (i * 2) (by omega)
   rw [List.getElem?_eq_getElem (by omega),k5] at this
   exact Option.some.inj this
  have e2 : (cur'.toList.take (xs.length * 2))[i * 2 + 1] = u := by
   have := hget (i * 2 + 1) (by omega)
   rw [List.getElem?_eq_getElem (by omega),k6] at this
   exact Option.some.inj this
  rw [e1,e2,List.getElem_set_self]
  exact hy
 ·have e1 : (cur'.toList.take (xs.length * 2))[i * 2] = cells[i * 2] := by
   have := hget (i * 2) (by omega)
   rw [List.getElem?_eq_getElem (by omega),k4 _ (by omega) (by omega),← hget0 _ (by omega),List.getElem?_eq_getElem (by omega)] at this
   exact Option.some.inj this
  have e2 : (cur'.toList.take (xs.length * 2))[i * 2 + 1] = cells[i * 2 + 1] := by
   have := hget (i * 2 + 1) (by omega)
   rw [List.getElem?_eq_getElem (by omega),k4 _ (by omega) (by omega),← hget0 _ (by omega),List.getElem?_eq_getElem (by omega)] at this
   exact Option.some.inj this
  rw [e1,e2,List.getElem_set_ne (by omega)]
  have := hd.2 i hi
  rw [take2 _ _ (by omega)] at this
  exact hr i hi hik _ this
theorem Own.at2 {α : Type} {base : Nat} {e : TypeId} {dec : World → List Value → α → Prop} {w : World} {a : Option Addr} {n cap : Nat} {xs : List α} (h : Own base e 2 dec w (.slice a n cap) xs) {k : Nat} (hk : k < xs.length) :
  ∃ g c d,a = some ⟨g,0,none⟩ ∧ base ≤ g ∧ g < w.heap.size ∧ w.cell? ⟨g,k * 2,none⟩ = some c ∧ w.cell? ⟨g,k * 2 + 1,none⟩ = some d ∧ (∀ o,w.frozen? ⟨g,o,none⟩ = false) ∧ dec w [c,d] xs[k] := by
 obtain ⟨cells,ho,hd⟩ := h
 rcases ho.2 with ⟨h1,h0⟩ | ⟨g,cap',cur,h1,h2,h3,h4,h5,h6,h7⟩
 ·omega
 simp only [Value.slice.injEq] at h1
 have hlen := hd.1
 have hget0 : ∀ j,(hj : j < cells.length) → w.cell? ⟨g,j,none⟩ = some cells[j] := by
  intro j hj
  simp [World.cell?,h3]
  have : cells[j]? = cur[j]? := by rw [← h7,List.getElem?_take_of_lt (by omega)];simp
  rw [← this,List.getElem?_eq_getElem hj]
 refine ⟨g,cells[k * 2],cells[k * 2 + 1],h1.1,h2,qa0 h3,hget0 _ _,hget0 _ _,fun o => by simp [World.frozen?,h3],?_⟩
 have := hd.2 k hk
 rwa [take2 _ _ (by omega)] at this
theorem heap_setCell2 {w : World} {g k : Nat} {cur : Array Value} {e : TypeId} (h : w.heap[g]? = some (.cells cur e (0,0))) (c u : Value) :
  ∃ cur',((w.setCell ⟨g,k * 2,none⟩ c).setCell ⟨g,k * 2 + 1,none⟩ u).heap[g]? = some (.cells cur' e (0,0)) ∧ cur'.size = cur.size ∧ (k * 2 + 1 < cur.size → cur'[k * 2]? = some c ∧ cur'[k * 2 + 1]? = some u) ∧ ∀ j,j ≠ k * 2 → j ≠ k * 2 + 1 → cur'[j]? = cur[j]? := by
 refine ⟨_,qa2 (qa2 h c) u,by simp,fun hk => ⟨?_,?_⟩,fun j h1 h2 => ?_⟩
 ·rw [Array.getElem?_setIfInBounds_ne (by omega),Array.getElem?_setIfInBounds_self_of_lt (by omega)]
 ·rw [Array.getElem?_setIfInBounds_self_of_lt (by simpa using hk)]
 ·rw [Array.getElem?_setIfInBounds_ne (by omega),Array.getElem?_setIfInBounds_ne (by omega)]
end

section
open Go Go.RowKit

theorem gb_refl (w : World) (row : Option Nat) : w.grownBy w row := ⟨rfl,rfl,rfl,Nat.le_refl _,fun _ _ _ => rfl⟩
theorem gb_trans {a b c : World} {row : Option Nat} (h : a.grownBy b row) (k : b.grownBy c row) : a.grownBy c row :=
 ⟨k.os.trans h.os,k.tape.trans h.tape,k.output.trans h.output,Nat.le_trans h.size k.size,fun i hi hr => (k.block i (Nat.lt_of_lt_of_le hi h.size) hr).trans (h.block i hi hr)⟩
theorem gb_setCell (w : World) (b i : Nat) (v : Value) : w.grownBy (w.setCell ⟨b,i,none⟩ v) (some b) :=
 ⟨rfl,rfl,rfl,by simp [World.setCell],fun k _ hk => Below.heap_setCell w ⟨b,i,none⟩ v k (fun e => hk (by rw [e]))⟩
theorem Own.map {α β : Type} {base : Nat} {e : TypeId} {n : Nat} {dec : World → List Value → α → Prop} {dec' : World → List Value → β → Prop} (f : α → β) {w : World} {v : Value} {xs : List α} (h : Own base e n dec w v xs) (hd : ∀ x ∈ xs,∀ cs,dec w cs x → dec' w cs (f x)) :
  Own base e n dec' w v (xs.map f) := by
 obtain ⟨cells,ho,h1,h2⟩ := h
 exact ⟨cells,by rw [List.length_map];exact ho,by rw [List.length_map];exact h1,fun i hi => by rw [List.getElem_map];exact hd _ (List.getElem_mem _) _ (h2 i (by simpa using hi))⟩
theorem Own.setCell {α : Type} {base : Nat} {e : TypeId} {n : Nat} {dec : World → List Value → α → Prop} {S : Nat → Prop} (hst : Stable S dec) {w : World} {v : Value} {xs : List α} (h : Own base e n dec w v xs) {p : Addr} (hp : p.block < base) (hS : ¬ S p.block) (u : Value) :
  Own base e n dec (w.setCell p u) v xs := let ⟨cells,ho,hd⟩ := h;⟨cells,ownsRow_setCell_below ho hp u,hd.same hst ((Same.refl _ _).setCell hS u)⟩
theorem setCell2_off {w : World} {g a b k : Nat} (h : k ≠ g) (c u : Value) : ((w.setCell ⟨g,a,none⟩ c).setCell ⟨g,b,none⟩ u).heap[k]? = w.heap[k]? :=
 (Below.heap_setCell _ ⟨g,b,none⟩ u k h).trans (Below.heap_setCell w ⟨g,a,none⟩ c k h)

def mixB (S : Nat → Prop) (lo : Nat) (v : Value) (w : World) (cs : List Value) (z : Blt × Bool) : Prop := if z.2 then wBlt (Rg lo w v) w cs z.1 else dBlt S w cs z.1
def MixIn (S : Nat → Prop) (lo : Nat) (w : World) (v : Value) (xs : List Blt) (j : Nat) (zs : List (Blt × Bool)) : Prop :=
 Own lo 61 2 (mixB S lo v) w v zs ∧ zs.map (·.1) = xs ∧ ∀ i (hi : i < zs.length),zs[i].2 = decide (i < j)
theorem MixIn.start {S : Nat → Prop} {lo : Nat} {w : World} {v : Value} {xs : List Blt} (h : Own lo 61 2 (dBlt S) w v xs) : MixIn S lo w v xs 0 (xs.map (·,false)) :=
 ⟨Own.map (·,false) h (fun x _ cs hd => by simpa [mixB] using hd),by simp [Function.comp_def],fun i hi => by simp⟩
theorem MixIn.step {S : Nat → Prop} {lo : Nat} {w w4 : World} {g n cap : Nat} {xs : List Blt} {j : Nat} {zs : List (Blt × Bool)} (h : MixIn S lo w (.slice (some ⟨g,0,none⟩) n cap) xs j zs) (hj : j < zs.length) (hS : ∀ b,S b → b < lo)
  (hlo : lo ≤ w.heap.size) (hb : Below w.heap.size w w4) {c d : Value} (hy : wBlt (Span w.heap.size w4.heap.size) w4 [c,d] zs[j].1) :
  MixIn S lo ((w4.setCell ⟨g,j * 2,none⟩ c).setCell ⟨g,j * 2 + 1,none⟩ d) (.slice (some ⟨g,0,none⟩) n cap) xs (j + 1) (zs.set j (zs[j].1,true)) := by
 have hg := Own.lt h.1 g rfl
 have hsz : ((w4.setCell ⟨g,j * 2,none⟩ c).setCell ⟨g,j * 2 + 1,none⟩ d).heap.size = w4.heap.size := by simp [World.setCell]
 have hsm : Same (fun b => b ≠ g) w ((w4.setCell ⟨g,j * 2,none⟩ c).setCell ⟨g,j * 2 + 1,none⟩ d) := fun b hb' hne => (setCell2_off hne c d).trans (hb.block b hb')
 refine ⟨Own.put2 (dec := mixB S lo _) h.1 hj (fun cur hc _ => heap_setCell2 ((hb.block g hg.2).trans hc) c d) ?_ (fun i hi hik cs hcs => ?_),?_,?_⟩
 ·simp only [mixB, if_true]
  refine (wBlt.stable (Span w.heap.size w4.heap.size) _ _ _ _ (fun b _ hb' => setCell2_off (by have := hb'.1;omega) c d) hy).mono fun b hb' => ⟨by have := hb'.1;omega,by rw [hsz];exact hb'.2,fun he => ?_⟩
  have h1 := hb'.1
  simp only [Value.ownBlock,Option.some.injEq] at he
  omega
 ·simp only [mixB] at hcs ⊢
  split at hcs
  ·rename_i ht
   rw [if_pos ht]
   refine (wBlt.stable (Rg lo w (.slice (some ⟨g,0,none⟩) n cap)) _ _ _ _ (hsm.mono fun b hb' he => hb'.2.2 (by rw [he];rfl)) hcs).mono fun b hb' => ⟨hb'.1,by rw [hsz];exact Nat.lt_of_lt_of_le hb'.2.1 hb.size,hb'.2.2⟩
  ·rename_i ht
   rw [if_neg ht]
   exact dBlt.stable S _ _ _ _ (hsm.mono fun b hb' he => by have := hS b hb';omega) hcs
 ·rw [List.map_set]
  have : zs.map (·.1) = xs := h.2.1
  rw [this]
  apply List.ext_getElem (by simp)
  intro i h1 h2
  rw [List.getElem_set]
  split
  ·subst_vars;simp
  ·rfl
 ·intro i hi
  rw [List.getElem_set]
  split
  ·subst_vars;simp
  ·have := h.2.2 i (by simpa using hi)
   rw [this]
   by_cases hij : i < j
   ·simp [hij];omega
   ·simp [hij];omega
theorem MixIn.done {S : Nat → Prop} {lo : Nat} {w : World} {v : Value} {xs : List Blt} {zs : List (Blt × Bool)} (h : MixIn S lo w v xs xs.length zs) : OwnX lo 61 2 wBlt w v xs := by
 obtain ⟨h1,h2,h3⟩ := h
 subst h2
 refine Own.map _ h1 fun x hx cs hd => ?_
 obtain ⟨i,hi,rfl⟩ := List.getElem_of_mem hx
 have := h3 i hi
 simp only [List.length_map,hi,decide_true] at this
 simpa [mixB,this] using hd

end
end Go.Proofs.YthcbkhfmdginiaaGreat
