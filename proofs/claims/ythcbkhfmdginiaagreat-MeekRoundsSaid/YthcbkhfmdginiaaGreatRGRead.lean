/- Texts of one claim,put together: Rng,AppIn. -/
import Derived.Test.YthcbkhfmdginiaaGreatRGFoot
import Derived.RangeFuncNested
import Derived.RangeFuncBox
import Derived.RangeFuncBound
import Derived.RangeFuncCalls
import Derived.RangeFuncLeaves
import Derived.Shelf.Abstract
import Derived.WalkKit
import Derived.OwnWalkIn

namespace Go.Proofs.YthcbkhfmdginiaaGreat
section
open Go Go.RowKit Go.Shelf

def SeqNew {α : Type} (n : Nat) (P : Program) (g : Nat) (lb : Array Value) (encs : α → Array Value) (R : α → World → World → Prop) (n₀ N : Nat) (Kb : Nat → Prop) (S Sp : List α → Prop) (w : World) : Prop :=
 ∀ (l : Nat) (J Jx : List α → World → Prop) (W : World), Below w.heap.size w W →
  (∀ pre x W0 W1, J pre W0 → pre.length ≤ N → Below W0.heap.size W0 W1 → R x W0 W1 → YieldAt Fence.wide (n - 1) P l (encs x) W1 fun e W' =>
   (e = .returned (.bool true) ∧ J (pre ++ [x]) W' ∧ Below n₀ W1 W' ∧ ∀ b,Kb b → W'.heap[b]? = W1.heap[b]?) ∨ (e = .returned (.bool false) ∧ Jx (pre ++ [x]) W')) →
  J [] W →
  CallsIn Fence.wide n P g (#[.func (.yield l) #[] #[]] ++ lb) W fun e W' => (∃ v,e = .returned v) ∧ ((∃ xs,S xs ∧ J xs W') ∨ (∃ pre,Sp pre ∧ Jx pre W'))

def newPost {α : Type} (n₀ : Nat) (Kb : Nat → Prop) (I Ix : List α → World → Prop) (xs : List α) (W : World) : Exit → Act → World → Prop
 | .normal,_,W' => KeepsOthers W W' ∧ Below n₀ W W' ∧ (∀ b,Kb b → W'.heap[b]? = W.heap[b]?) ∧ I xs W'
 | .ret,_,W' => KeepsOthers W W' ∧ Ix xs W'
 | _,_,_ => False

variable {n : Nat} {P : Program}

theorem wpIn_rangeFunc_new {α : Type} {g : Operand} {ps : Array Tmp} {assign body : Code} {Q : Exit → Act → World → Prop} {a : Act} {w : World}
  {gf : Nat} {lb : Array Value} (hg : a.eval g = .func (.func gf) #[] lb) (eg : ∀ args w,(callFunc gf args).run P w = .ok (.enter gf args) w)
  {encs : α → Array Value} {R : α → World → World → Prop} {n₀ N : Nat} {Kb : Nat → Prop} {S Sp : List α → Prop} {w0 : World} (hseq : SeqNew (n - 1) P gf lb encs R n₀ N Kb S Sp w0)
  (hn₀ : n₀ ≤ w.heap.size) (hKb : ∀ b,Kb b → b < w.heap.size) (hb0 : Below w0.heap.size w0 w) (hps : ∀ x,(encs x).size = ps.size)
  (I Ix : List α → World → Prop) (hIp : ∀ s W l o,w.heap.size ≤ l → l ≤ w.heap.size + 1 → I s W → I s (W.putObj l o)) (hIxp : ∀ s W l o,w.heap.size ≤ l → l ≤ w.heap.size + 1 → Ix s W → Ix s (W.putObj l o))
  (h0 : ∀ W,Below w.heap.size w W → W.heap.size = w.heap.size + 2 → I [] W) (a₁ : α → Act)
  (hassign : ∀ (l : Nat) (x : α) (W : World) (K : Act → World → Prop), K (a₁ x) W →
   assign.wpIn (Fence.wide.inRound l) (n - 1 - 1) P (Exit.then K (fun _ _ _ => False)) { tmps := (ps.zip (encs x)).foldl (fun t (p,v) => t.setIfInBounds p v) a.tmps,defers := [] } W)
  (hbody : ∀ (l : Nat) (pre : List α) (x : α) (W0 W1 : World) (o : Obj), I pre W0 → pre.length ≤ N → w.heap.size + 2 ≤ W0.heap.size → Below W0.heap.size W0 W1 → R x W0 W1 →
   body.wpIn (Fence.wide.inRound l) (n - 1 - 1) P (newPost n₀ Kb I Ix (pre ++ [x]) (W1.putObj (w.heap.size + 1) o)) (a₁ x) (W1.putObj (w.heap.size + 1) o))
  (hdone : ∀ (xs : List α) (W : World),S xs → I xs W → W.heap[w.heap.size]? = some (.deferred (some [])) → Q .normal { a with defers := { target := .collected w.heap.size,args := #[] } :: a.defers } W)
  (hstop : ∀ (pre : List α) (W : World),Sp pre → Ix pre W → W.heap[w.heap.size]? = some (.deferred (some [])) → Code.ret.wpIn Fence.wide n P Q { a with defers := { target := .collected w.heap.size,args := #[] } :: a.defers } W) :
  (Code.rangeFunc g ps assign body).wpIn Fence.wide n P Q a w := by
 refine wpIn_rangeFunc fun fn hfn => ?_
 rw [show Fence.wide.round = none from rfl]
 -- the record of the loop,at each of its states
 let rec_ : LoopState → Option Code → Loop := fun st pe => { state := st,pending := pe,fn,tmps := a.tmps,params := ps,assign,body,defers := w.heap.size }
 let ws : World := w.alloc (.deferred (some []))
 let wl : World := ws.alloc (.loop (rec_ .ready none))
 let Rec : LoopState → Option Code → World → Prop := fun st pe W => W.heap[w.heap.size + 1]? = some (.loop (rec_ st pe)) ∧ W.heap[w.heap.size]? = some (.deferred (some []))
 have hsz : wl.heap.size = w.heap.size + 2 := by simp [wl,ws]
 have hstart : Rec .ready none wl := by
  refine ⟨?_,?_⟩
  ·have := World.alloc_heap_new ws (.loop (rec_ .ready none))
   rwa [show ws.heap.size = w.heap.size + 1 by simp [ws]] at this
  ·exact (Below.heap_alloc ws _ _ (by simp [ws])).trans (World.alloc_heap_new w _)
 have hbl : Below w.heap.size w wl := ((Below.refl _ w).alloc (Nat.le_refl _) _).alloc (by simp) _
 have hturn : ∀ {st pe W} (st' pe'),Rec st pe W → Rec st' pe' (W.putObj (w.heap.size + 1) (.loop (rec_ st' pe'))) := fun st' pe' h =>
  ⟨World.putObj_heap_same (Array.getElem?_eq_some_iff.1 h.1).1,(World.putObj_heap_other (by omega)).trans h.2⟩
 have hput : ∀ (W : World) (o : Obj),w.heap.size + 1 < W.heap.size → Below n₀ W (W.putObj (w.heap.size + 1) o) := fun W o _ =>
  (Below.refl n₀ W).grown (grownBy_putObj' W _ o) (by omega) (fun k e => by cases e;omega)
 refine ⟨w.heap.size + 1,[{ target := .collected w.heap.size,args := #[] }],wl,{ target := .fn (.func gf) lb,args := #[.func (.yield (w.heap.size + 1)) #[] #[]] },wl,gf,#[.func (.yield (w.heap.size + 1)) #[] #[]] ++ lb,wl,run_enterLoop_outer _ _ _ _ _,by simp only [resolve,hg];simp [go_sem],fun _ _ => trivial,by simp [invoke,go_sem,eg],fun hd => by simp [Fence.wide] at hd,?_⟩
 refine (hseq (w.heap.size + 1) (fun s W => I s W ∧ w.heap.size + 2 ≤ W.heap.size ∧ Rec .ready none W) (fun s W => Ix s W ∧ Rec .done (some .ret) W) wl (hb0.trans (hbl.mono hb0.size)) ?_ ⟨h0 _ hbl hsz,by omega,hstart⟩).mono ?_
 ·rintro pre x W0 W1 ⟨hi, hlt, hr⟩ hN hb hR
  have hr1 : Rec .ready none W1 := ⟨(hb.block _ (by omega)).trans hr.1,(hb.block _ (by omega)).trans hr.2⟩
  have hl1 := hb.size
  refine ⟨fn,_,assign,body,run_yield hr1.1 (hps x),roundIn_of_wpIn hfn (hassign _ x W1 _ ⟨_,run_beginRound hr1.1 rfl,?_⟩)⟩
  have hr2 := hturn .busy none hr1
  refine wpIn_mono (hbody _ pre x W0 W1 _ hi hN hlt hb hR) ?_
  intro e a3 W3 hp
  have hk : KeepsOthers (W1.putObj (w.heap.size + 1) (.loop (rec_ .busy none))) W3 → Rec .busy none W3 := fun hk => ⟨hk.same _ _ hr2.1 rfl,hk.same _ _ hr2.2 rfl⟩
  cases e with
  | normal =>
   obtain ⟨hk3,hb3,hkb3,hi3⟩ := hp
   have hr3 := hk hk3
   refine ⟨_,_,run_endRound none hr3.1,.inl ⟨rfl,⟨hIp _ _ _ _ (by omega) (by omega) hi3,?_,hturn .ready none hr3⟩,?_,fun b hb' => ?_⟩⟩
   ·have := hk3.size;simp at this ⊢;omega
   ·have := hk3.size; simp at this
    exact ((hput _ _ (by omega)).trans hb3).trans (hput _ _ (by omega))
   ·have hne := hKb b hb'
    exact (World.putObj_heap_other (by omega)).trans ((hkb3 b hb').trans (World.putObj_heap_other (by omega)))
  | ret =>
   obtain ⟨hk3,hi3⟩ := hp
   have hr3 := hk hk3
   exact ⟨_,_,run_endRound (some .ret) hr3.1,.inr ⟨rfl,hIxp _ _ _ _ (by omega) (by omega) hi3,hturn .done (some .ret) hr3⟩⟩
  | exit _ => exact hp.elim
  | goto _ => exact hp.elim
  | panic _ => exact hp.elim
  | outgrown => exact hp.elim
 ·rintro e W2 ⟨⟨v, rfl⟩, ⟨xs, hS, hi, _, hr⟩ | ⟨pre, hSp, hi, hr⟩⟩
  ·exact ⟨none,_,run_endLoop hr.1 (by simp [rec_]),hdone xs _ hS (hIp _ _ _ _ (by omega) (by omega) hi) (hturn .exhausted none hr).2⟩
  ·exact ⟨some .ret,_,run_endLoop hr.1 (by simp [rec_]),hstop pre _ hSp (hIxp _ _ _ _ (by omega) (by omega) hi) (hturn .exhausted (some .ret) hr).2⟩
end

section
open Go Go.RowKit

variable {P : Program} (w : World)
theorem wpListIn_appX {G : Fence} {m : Nat} {α : Type} {z : Value} {size bytes : Nat} {ops : Array Oper} {rest : List Oper} {o : Oper} {a : Act} {Q : Exit → Act → World → Prop} {e t : TypeId} (hinfo : (P.info? e).map (fun i => (i.zero,i.size,i.bytes)) = some (some z,size,bytes))
  (hgd : o.guard = none) {s x : Operand} (ho : o.op = .call { callee := .builtin .append,args := #[s,x],argTypes := #[t,t] }) (ht : P.underlying t = some (.slice e))
  (hzs : z.cells.size = size ∧ 0 < size ∧ 0 < bytes) {dec : (Nat → Prop) → World → List Value → α → Prop} (F : Fam dec) (base : Nat)
  {v : Value} {xs : List α} (hown : OwnX base e size dec w v xs) (hs : a.eval s = v) {g : Nat} {cs : List Value} {y : α} (hg : w.heap[g]? = some (.cells cs.toArray e (0,0))) (hl : cs.length = size) (hy : dec (Rg base w v) w cs y)
  (hx : a.eval x = .slice (some ⟨g,0,none⟩) 1 1)
  (h63 : (xs.length + 1) * bytes ≤ 140737488355328) (hbase : base ≤ w.heap.size)
  (h : ∀ a' n' c' w', w.grownBy w' v.ownBlock → OwnX base e size dec w' (.slice a' n' c') (xs ++ [y]) →
   wpListIn G m P ops Q rest (a.put o.dst (.slice a' n' c')) w') : wpListIn G m P ops Q (o :: rest) a w := by
 refine wpListIn_plain hgd fun K hK' => ?_
 obtain ⟨i,hi,hz,hsize,hby⟩ := info_parts hinfo
 obtain ⟨cells,hown,hd⟩ := hown
 obtain ⟨v',w',news,hrun,h2,h3,h4,h5⟩ := run_append_rsl (P := P) w base t o.type e i z size bytes ht hi hz hsize hby hzs.1 hzs.2.1 (From 0) (dec (Rg base w v)) (F.one _) v xs.length cells hown (.slice (some ⟨g,0,none⟩) 1 1) [y] (RSl.built (lo := 0) (Nat.zero_le _) hg hl hy) (by simpa using h63) hzs.2.2 hbase
 have hsh : ∃ a' c',v' = .slice a' (xs ++ [y]).length c' := by
  rw [List.length_append]
  rcases h3.2 with ⟨rfl,h0⟩ | ⟨g,cap,cur,rfl,_⟩
  ·exact ⟨none,0,by rw [h0]⟩
  ·exact ⟨_,cap,rfl⟩
 obtain ⟨a',c',rfl⟩ := hsh
 have hsame : Same (Rg base w v) w w' := .of_grown h4 (fun b hb => hb.2.2)
 have hO : Own base e size (dec (Rg base w v)) w' (.slice a' (xs ++ [y]).length c') (xs ++ [y]) := ⟨cells ++ news,by rw [List.length_append] at h3 ⊢;exact h3,(hd.append h2).same (F.stable _) hsame⟩
 have hO' : OwnX base e size dec w' (.slice a' (xs ++ [y]).length c') (xs ++ [y]) := by
  refine Own.dmono (fun cs x hd => F.mono (fun b hb => ⟨hb.1,Nat.lt_of_lt_of_le hb.2.1 h4.size,?_⟩) hd) hO
  rcases h5 with e | e
  ·rw [e];exact hb.2.2
  ·rw [e];have := hb.2.1;intro h;injection h with h;omega
 unfold Oper.wpIn
 refine ⟨?_,?_⟩
 ·simp [Oper.about,ho,resolve,Target.leads,Sem.run_pure]
 ·rw [Oper.semAt_plain G _ _ (by rw [ho]; intro c hc'; cases hc')]
  simp only [execOp,ho,resolve,invoke,builtin,Sem.run_bind,Sem.run_pure,Result.andThen_ok,List.map_toArray,List.map_cons,List.map_nil,hs,hx,hrun]
  exact hK' _ _ (h a' _ c' w' h4 hO')
end
end Go.Proofs.YthcbkhfmdginiaaGreat
