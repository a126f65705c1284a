/- Texts of one claim, put together: Rng, Oct2, Spl, AppIn, SplO, ReadS, Read, ReadR, ArgB, LawReads. -/
import Derived.Test.YtkjgddcjhikdgaaKGFoot
import Derived.Test.YtkjgddcjhikdgaaKGPut
import Derived.Test.YtkjgddcjhikdgaaKGTell
import Derived.RangeFuncNested
import Derived.RangeFuncBox
import Derived.RangeFuncBound
import Derived.RangeFuncCalls
import Derived.RangeFuncLeaves
import Derived.Shelf.Abstract
import Derived.WalkKit
import Derived.OwnWalkIn
import Derived.Shelf.RegionOpen
import Derived.TacticsInMore
import Derived.LoopNIn
import Derived.LoopIn
import Derived.Laws.BytesArg
import Derived.Deep.RegionHeld3

/- A range over a function whose iterator hands each round memory that it has made since the last: the body is told what lies there. -/
namespace Go.Proofs.Ytkjgddcjhikdgaa
open Go Go.RowKit Go.Shelf

/-- The iterator's word: between two rounds it adds memory alone (W0 to W1), and R says what it hands over. -/
def SeqNew {α : Type} (n : Nat) (P : Program) (g : Nat) (lb : Array Value) (encs : α → Array Value) (R : α → World → World → Prop) (n₀ N : Nat) (Kb : Nat → Prop) (S Sp : List α → Prop) (w : World) : Prop :=
  ∀ (l : Nat) (J Jx : List α → World → Prop) (W : World), Below w.heap.size w W →
    (∀ pre x W0 W1, J pre W0 → pre.length ≤ N → Below W0.heap.size W0 W1 → R x W0 W1 → YieldAt Fence.wide (n - 1) P l (encs x) W1 fun e W' =>
      (e = .returned (.bool true) ∧ J (pre ++ [x]) W' ∧ Below n₀ W1 W' ∧ ∀ b, Kb b → W'.heap[b]? = W1.heap[b]?) ∨ (e = .returned (.bool false) ∧ Jx (pre ++ [x]) W')) →
    J [] W →
    CallsIn Fence.wide n P g (#[.func (.yield l) #[] #[]] ++ lb) W fun e W' => (∃ v, e = .returned v) ∧ ((∃ xs, S xs ∧ J xs W') ∨ (∃ pre, Sp pre ∧ Jx pre W'))

/-- How a round's body may end: it goes on, or it returns from the function. -/
def newPost {α : Type} (n₀ : Nat) (Kb : Nat → Prop) (I Ix : List α → World → Prop) (xs : List α) (W : World) : Exit → Act → World → Prop
  | .normal, _, W' => KeepsOthers W W' ∧ Below n₀ W W' ∧ (∀ b, Kb b → W'.heap[b]? = W.heap[b]?) ∧ I xs W'
  | .ret, _, W' => KeepsOthers W W' ∧ Ix xs W'
  | _, _, _ => False

variable {n : Nat} {P : Program}

theorem wpIn_rangeFunc_new {α : Type} {g : Operand} {ps : Array Tmp} {assign body : Code} {Q : Exit → Act → World → Prop} {a : Act} {w : World}
    {gf : Nat} {lb : Array Value} (hg : a.eval g = .func (.func gf) #[] lb) (eg : ∀ args w, (callFunc gf args).run P w = .ok (.enter gf args) w)
    {encs : α → Array Value} {R : α → World → World → Prop} {n₀ N : Nat} {Kb : Nat → Prop} {S Sp : List α → Prop} {w0 : World} (hseq : SeqNew (n - 1) P gf lb encs R n₀ N Kb S Sp w0)
    (hn₀ : n₀ ≤ w.heap.size) (hKb : ∀ b, Kb b → b < w.heap.size) (hb0 : Below w0.heap.size w0 w) (hps : ∀ x, (encs x).size = ps.size)
    (I Ix : List α → World → Prop) (hIp : ∀ s W l o, w.heap.size ≤ l → l ≤ w.heap.size + 1 → I s W → I s (W.putObj l o)) (hIxp : ∀ s W l o, w.heap.size ≤ l → l ≤ w.heap.size + 1 → Ix s W → Ix s (W.putObj l o))
    (h0 : ∀ W, Below w.heap.size w W → W.heap.size = w.heap.size + 2 → I [] W) (a₁ : α → Act)
    (hassign : ∀ (l : Nat) (x : α) (W : World) (K : Act → World → Prop), K (a₁ x) W →
      assign.wpIn (Fence.wide.inRound l) (n - 1 - 1) P (Exit.then K (fun _ _ _ => False)) { tmps := (ps.zip (encs x)).foldl (fun t (p, v) => t.setIfInBounds p v) a.tmps, defers := [] } W)
    (hbody : ∀ (l : Nat) (pre : List α) (x : α) (W0 W1 : World) (o : Obj), I pre W0 → pre.length ≤ N → w.heap.size + 2 ≤ W0.heap.size → Below W0.heap.size W0 W1 → R x W0 W1 →
      body.wpIn (Fence.wide.inRound l) (n - 1 - 1) P (newPost n₀ Kb I Ix (pre ++ [x]) (W1.putObj (w.heap.size + 1) o)) (a₁ x) (W1.putObj (w.heap.size + 1) o))
    (hdone : ∀ (xs : List α) (W : World), S xs → I xs W → W.heap[w.heap.size]? = some (.deferred (some [])) → Q .normal { a with defers := { target := .collected w.heap.size, args := #[] } :: a.defers } W)
    (hstop : ∀ (pre : List α) (W : World), Sp pre → Ix pre W → W.heap[w.heap.size]? = some (.deferred (some [])) → Code.ret.wpIn Fence.wide n P Q { a with defers := { target := .collected w.heap.size, args := #[] } :: a.defers } W) :
    (Code.rangeFunc g ps assign body).wpIn Fence.wide n P Q a w := by
  refine wpIn_rangeFunc fun fn hfn => ?_
  rw [show Fence.wide.round = none from rfl]
  -- the record of the loop, at each of its states
  let rec_ : LoopState → Option Code → Loop := fun st pe => { state := st, pending := pe, fn, tmps := a.tmps, params := ps, assign, body, defers := w.heap.size }
  let ws : World := w.alloc (.deferred (some []))
  let wl : World := ws.alloc (.loop (rec_ .ready none))
  let Rec : LoopState → Option Code → World → Prop := fun st pe W => W.heap[w.heap.size + 1]? = some (.loop (rec_ st pe)) ∧ W.heap[w.heap.size]? = some (.deferred (some []))
  have hsz : wl.heap.size = w.heap.size + 2 := by simp [wl, ws]
  have hstart : Rec .ready none wl := by
    refine ⟨?_, ?_⟩
    · have := World.alloc_heap_new ws (.loop (rec_ .ready none))
      rwa [show ws.heap.size = w.heap.size + 1 by simp [ws]] at this
    · exact (Below.heap_alloc ws _ _ (by simp [ws])).trans (World.alloc_heap_new w _)
  have hbl : Below w.heap.size w wl := ((Below.refl _ w).alloc (Nat.le_refl _) _).alloc (by simp) _
  have hturn : ∀ {st pe W} (st' pe'), Rec st pe W → Rec st' pe' (W.putObj (w.heap.size + 1) (.loop (rec_ st' pe'))) := fun st' pe' h =>
    ⟨World.putObj_heap_same (Array.getElem?_eq_some_iff.1 h.1).1, (World.putObj_heap_other (by omega)).trans h.2⟩
  have hput : ∀ (W : World) (o : Obj), w.heap.size + 1 < W.heap.size → Below n₀ W (W.putObj (w.heap.size + 1) o) := fun W o _ =>
    (Below.refl n₀ W).grown (grownBy_putObj' W _ o) (by omega) (fun k e => by cases e; omega)
  refine ⟨w.heap.size + 1, [{ target := .collected w.heap.size, args := #[] }], wl, { target := .fn (.func gf) lb, args := #[.func (.yield (w.heap.size + 1)) #[] #[]] }, wl, gf, #[.func (.yield (w.heap.size + 1)) #[] #[]] ++ lb, wl, run_enterLoop_outer _ _ _ _ _, by simp only [resolve, hg]; simp [go_sem], fun _ _ => trivial, by simp [invoke, go_sem, eg], fun hd => by simp [Fence.wide] at hd, ?_⟩
  refine (hseq (w.heap.size + 1) (fun s W => I s W ∧ w.heap.size + 2 ≤ W.heap.size ∧ Rec .ready none W) (fun s W => Ix s W ∧ Rec .done (some .ret) W) wl (hb0.trans (hbl.mono hb0.size)) ?_ ⟨h0 _ hbl hsz, by omega, hstart⟩).mono ?_
  · rintro pre x W0 W1 ⟨hi, hlt, hr⟩ hN hb hR
    have hr1 : Rec .ready none W1 := ⟨(hb.block _ (by omega)).trans hr.1, (hb.block _ (by omega)).trans hr.2⟩
    have hl1 := hb.size
    refine ⟨fn, _, assign, body, run_yield hr1.1 (hps x), roundIn_of_wpIn hfn (hassign _ x W1 _ ⟨_, run_beginRound hr1.1 rfl, ?_⟩)⟩
    have hr2 := hturn .busy none hr1
    refine wpIn_mono (hbody _ pre x W0 W1 _ hi hN hlt hb hR) ?_
    intro e a3 W3 hp
    have hk : KeepsOthers (W1.putObj (w.heap.size + 1) (.loop (rec_ .busy none))) W3 → Rec .busy none W3 := fun hk => ⟨hk.same _ _ hr2.1 rfl, hk.same _ _ hr2.2 rfl⟩
    cases e with
    | normal =>
      obtain ⟨hk3, hb3, hkb3, hi3⟩ := hp
      have hr3 := hk hk3
      refine ⟨_, _, run_endRound none hr3.1, .inl ⟨rfl, ⟨hIp _ _ _ _ (by omega) (by omega) hi3, ?_, hturn .ready none hr3⟩, ?_, fun b hb' => ?_⟩⟩
      · have := hk3.size; simp at this ⊢; omega
      · have := hk3.size; simp at this
        exact ((hput _ _ (by omega)).trans hb3).trans (hput _ _ (by omega))
      · have hne := hKb b hb'
        exact (World.putObj_heap_other (by omega)).trans ((hkb3 b hb').trans (World.putObj_heap_other (by omega)))
    | ret =>
      obtain ⟨hk3, hi3⟩ := hp
      have hr3 := hk hk3
      exact ⟨_, _, run_endRound (some .ret) hr3.1, .inr ⟨rfl, hIxp _ _ _ _ (by omega) (by omega) hi3, hturn .done (some .ret) hr3⟩⟩
    | exit _ => exact hp.elim
    | goto _ => exact hp.elim
    | panic _ => exact hp.elim
    | outgrown => exact hp.elim
  · rintro e W2 ⟨⟨v, rfl⟩, ⟨xs, hS, hi, _, hr⟩ | ⟨pre, hSp, hi, hr⟩⟩
    · exact ⟨none, _, run_endLoop hr.1 (by simp [rec_]), hdone xs _ hS (hIp _ _ _ _ (by omega) (by omega) hi) (hturn .exhausted none hr).2⟩
    · exact ⟨some .ret, _, run_endLoop hr.1 (by simp [rec_]), hstop pre _ hSp (hIxp _ _ _ _ (by omega) (by omega) hi) (hturn .exhausted (some .ret) hr).2⟩
end Go.Proofs.Ytkjgddcjhikdgaa

/- The contracts of the reference's TakeField and Split; what splitting gives. -/
namespace Go.Proofs.Ytkjgddcjhikdgaa
open Go Go.RowKit Go.Shelf

/-- The fields from a place on, by fuel. -/
def splitG (xs : List Int) : Nat → Nat → Option (List (List Int))
  | 0, p => if p < xs.length then none else some []
  | f + 1, p => if p < xs.length then (match takeG xs p with | none => none | some (x, q) => (splitG xs f q).map (x :: ·)) else some []
theorem takeG_some {xs : List Int} {p : Nat} {x : List Int} {q : Nat} (h : takeG xs p = some (x, q)) : p + 2 ≤ q ∧ q ≤ xs.length ∧ x.length ≤ 65535 + xs.length := by
  unfold takeG at h
  split at h
  · cases h
  · split at h
    · cases h
    · simp at h
      obtain ⟨rfl, rfl⟩ := h
      refine ⟨by omega, by omega, ?_⟩
      rw [List.length_take, List.length_drop]; omega
/-- What splitting gives: the error, and the fields. -/
def splitE (xs : List Int) : Int := if 16384 < xs.length then 4 else match splitG xs xs.length 0 with | none => 10 | some _ => 0
def splitV (xs : List Int) : List (List Int) := if 16384 < xs.length then [] else (splitG xs xs.length 0).getD []
/-- Fields in memory: each a row of bytes. -/
def dField (S : Nat → Prop) (w : World) (cs : List Value) (x : List Int) : Prop := ∃ v, cs = [v] ∧ RBytes S w v x
theorem dField.stable (S : Nat → Prop) : Stable S (dField S) := fun _ _ _ _ hs ⟨v, h1, h2⟩ => ⟨v, h1, h2.same hs⟩
theorem dField.mono {S T : Nat → Prop} {w : World} {cs : List Value} {x : List Int} (hT : ∀ b, S b → T b) (h : dField S w cs x) : dField T w cs x := let ⟨v, h1, h2⟩ := h; ⟨v, h1, RSl.mono (fun _ _ _ h => h) hT h2⟩
theorem dField.one (S : Nat → Prop) : OneC (dField S) := by
  intro w cs x h u hu; obtain ⟨v, rfl, hv⟩ := h; simp at hu; subst hu; exact slice_one hv
theorem famField : Fam dField := ⟨fun h x => dField.mono h x, dField.stable, dField.one⟩
end Go.Proofs.Ytkjgddcjhikdgaa

/- The contract of the reference's Split. -/
namespace Go.Proofs.Ytkjgddcjhikdgaa
open Go Go.RowKit Go.Shelf

theorem Try.infoField : (Try.prog.info? 61).map (fun i => (i.zero, i.size, i.bytes)) = some (some (.slice none 0 0), 1, 24) := by kernel_rfl
/-- What a call of Split gives: the fields in memory of their own, and the error. -/
def SplitGives (xs : List Int) (w : World) (e : Ending) (w' : World) : Prop :=
  ∃ v, e = .returned (.tuple #[v, .int .i64 (splitE xs)]) ∧ OwnX w.heap.size 61 1 dField w' v (splitV xs) ∧ Below w.heap.size w w'
theorem SplitGives.long {xs : List Int} {w : World} (h : 16384 < xs.length) : SplitGives xs w (.returned (.tuple #[.slice none 0 0, .int .i64 4])) w :=
  ⟨_, by rw [splitE, if_pos h], by rw [splitV, if_pos h]; exact OwnX.nil _ _ _ _ _, Below.refl _ _⟩
theorem SplitGives.bad {xs : List Int} {w w' : World} (h : ¬ 16384 < xs.length) (hg : splitG xs xs.length 0 = none) (hb : Below w.heap.size w w') : SplitGives xs w (.returned (.tuple #[.slice none 0 0, .int .i64 10])) w' :=
  ⟨_, by rw [splitE, if_neg h, hg], by rw [splitV, if_neg h, hg]; exact OwnX.nil _ _ _ _ _, hb⟩
theorem SplitGives.good {xs : List Int} {ys : List (List Int)} {w w' : World} {v : Value} (h : ¬ 16384 < xs.length) (hg : splitG xs xs.length 0 = some ys) (ho : OwnX w.heap.size 61 1 dField w' v ys) (hb : Below w.heap.size w w') : SplitGives xs w (.returned (.tuple #[v, .int .i64 0])) w' :=
  ⟨_, by rw [splitE, if_neg h, hg], by rw [splitV, if_neg h, hg]; exact ho, hb⟩
/-- A part of the fields has been read: what is left is read from p on. -/
def SplitAt (xs : List Int) (ys : List (List Int)) (p : Nat) : Prop := p ≤ xs.length ∧ ys.length ≤ p ∧ ∃ f, xs.length ≤ f + p ∧ splitG xs xs.length 0 = (splitG xs f p).map (ys ++ ·)
theorem SplitAt.start (xs : List Int) : SplitAt xs [] 0 := ⟨Nat.zero_le _, Nat.zero_le _, xs.length, by omega, by simp⟩
theorem SplitAt.none {xs : List Int} {ys : List (List Int)} {p : Nat} (h : SplitAt xs ys p) (hp : p < xs.length) (ht : takeG xs p = none) : splitG xs xs.length 0 = none := by
  obtain ⟨_, _, f, hf, he⟩ := h
  obtain ⟨g, rfl⟩ : ∃ g, f = g + 1 := ⟨f - 1, by omega⟩
  rw [he, splitG, if_pos hp, ht]; rfl
theorem SplitAt.some {xs : List Int} {ys : List (List Int)} {p : Nat} {x : List Int} {q : Nat} (h : SplitAt xs ys p) (hp : p < xs.length) (ht : takeG xs p = some (x, q)) : SplitAt xs (ys ++ [x]) q := by
  obtain ⟨_, h2, f, hf, he⟩ := h
  obtain ⟨k1, k2, _⟩ := takeG_some ht
  obtain ⟨g, rfl⟩ : ∃ g, f = g + 1 := ⟨f - 1, by omega⟩
  refine ⟨k2, by simp; omega, g, by omega, ?_⟩
  rw [he, splitG, if_pos hp, ht]
  simp only [Option.map_map]
  congr 1
  funext l
  simp
theorem SplitAt.over {xs : List Int} {ys : List (List Int)} {p : Nat} (h : SplitAt xs ys p) (hp : ¬ p < xs.length) : splitG xs xs.length 0 = Option.some ys := by
  obtain ⟨_, _, f, hf, he⟩ := h
  rw [he]
  cases f <;> simp [splitG, hp]
end Go.Proofs.Ytkjgddcjhikdgaa

/- The law on append to a row of the call's own whose elements have memory of their own, inside a fence. -/
namespace Go.Proofs.Ytkjgddcjhikdgaa
open Go Go.RowKit

variable {P : Program} (w : World)
theorem wpListIn_appX {G : Fence} {m : Nat} {α : Type} {z : Value} {size bytes : Nat} {ops : Array Oper} {rest : List Oper} {o : Oper} {a : Act} {Q : Exit → Act → World → Prop} {e t : TypeId} (hinfo : (P.info? e).map (fun i => (i.zero, i.size, i.bytes)) = some (some z, size, bytes))
    (hgd : o.guard = none) {s x : Operand} (ho : o.op = .call { callee := .builtin .append, args := #[s, x], argTypes := #[t, t] }) (ht : P.underlying t = some (.slice e))
    (hzs : z.cells.size = size ∧ 0 < size ∧ 0 < bytes) {dec : (Nat → Prop) → World → List Value → α → Prop} (F : Fam dec) (base : Nat)
    {v : Value} {xs : List α} (hown : OwnX base e size dec w v xs) (hs : a.eval s = v) {g : Nat} {cs : List Value} {y : α} (hg : w.heap[g]? = some (.cells cs.toArray e (0, 0))) (hl : cs.length = size) (hy : dec (Rg base w v) w cs y)
    (hx : a.eval x = .slice (some ⟨g, 0, none⟩) 1 1)
    (h63 : (xs.length + 1) * bytes ≤ 140737488355328) (hbase : base ≤ w.heap.size)
    (h : ∀ a' n' c' w', w.grownBy w' v.ownBlock → OwnX base e size dec w' (.slice a' n' c') (xs ++ [y]) →
      wpListIn G m P ops Q rest (a.put o.dst (.slice a' n' c')) w') : wpListIn G m P ops Q (o :: rest) a w := by
  refine wpListIn_plain hgd fun K hK' => ?_
  obtain ⟨i, hi, hz, hsize, hby⟩ := info_parts hinfo
  obtain ⟨cells, hown, hd⟩ := hown
  obtain ⟨v', w', news, hrun, h2, h3, h4, h5⟩ := run_append_rsl (P := P) w base t o.type e i z size bytes ht hi hz hsize hby hzs.1 hzs.2.1 (From 0) (dec (Rg base w v)) (F.one _) v xs.length cells hown (.slice (some ⟨g, 0, none⟩) 1 1) [y] (RSl.built (lo := 0) (Nat.zero_le _) hg hl hy) (by simpa using h63) hzs.2.2 hbase
  have hsh : ∃ a' c', v' = .slice a' (xs ++ [y]).length c' := by
    rw [List.length_append]
    rcases h3.2 with ⟨rfl, h0⟩ | ⟨g, cap, cur, rfl, _⟩
    · exact ⟨none, 0, by rw [h0]⟩
    · exact ⟨_, cap, rfl⟩
  obtain ⟨a', c', rfl⟩ := hsh
  have hsame : Same (Rg base w v) w w' := .of_grown h4 (fun b hb => hb.2.2)
  have hO : Own base e size (dec (Rg base w v)) w' (.slice a' (xs ++ [y]).length c') (xs ++ [y]) := ⟨cells ++ news, by rw [List.length_append] at h3 ⊢; exact h3, (hd.append h2).same (F.stable _) hsame⟩
  have hO' : OwnX base e size dec w' (.slice a' (xs ++ [y]).length c') (xs ++ [y]) := by
    refine Own.dmono (fun cs x hd => F.mono (fun b hb => ⟨hb.1, Nat.lt_of_lt_of_le hb.2.1 h4.size, ?_⟩) hd) hO
    rcases h5 with e | e
    · rw [e]; exact hb.2.2
    · rw [e]; have := hb.2.1; intro h; injection h with h; omega
  unfold Oper.wpIn
  refine ⟨?_, ?_⟩
  · simp [Oper.about, ho, resolve, Target.leads, Sem.run_pure]
  · rw [Oper.semAt_plain G _ _ (by rw [ho]; intro c hc'; cases hc')]
    simp only [execOp, ho, resolve, invoke, builtin, Sem.run_bind, Sem.run_pure, Result.andThen_ok, List.map_toArray, List.map_cons, List.map_nil, hs, hx, hrun]
    exact hK' _ _ (h a' _ c' w' h4 hO')
end Go.Proofs.Ytkjgddcjhikdgaa

/- The contracts of octet.fields and octet.Split: an iterator that hands over memory of its own making. -/
namespace Go.Proofs.Ytkjgddcjhikdgaa
open Go Go.RowKit Go.Shelf
attribute [local go_sem] Oper.semAt_some

/-- What a round is handed: a field's value, its bytes, the error. -/
structure Yd where
  v : Value
  x : List Int
  e : Int
def encsY (y : Yd) : Array Value := #[y.v, .int .i64 y.e]
def RY (y : Yd) (W0 W1 : World) : Prop := (y.e = 0 ∧ y.x.length ≤ 1000000 ∧ ∃ a c, y.v = .slice a y.x.length c ∧ Own W0.heap.size 5 1 (dInt .u8) W1 y.v y.x) ∨ (y.e = 10 ∧ y.v = .slice none 0 0)
def SY (xs : List Int) (ys : List Yd) : Prop := ((∀ y ∈ ys, y.e = 0) ∧ splitG xs xs.length 0 = some (ys.map (·.x))) ∨ ∃ y ∈ ys, y.e ≠ 0
def SpY (xs : List Int) (ys : List Yd) : Prop := (∃ y ∈ ys, y.e ≠ 0) → splitG xs xs.length 0 = none
set_option maxHeartbeats 1000000 in
theorem fields1 (n : Nat) (hn : 2 ≤ n) (S : Nat → Prop) (n₀ bB : Nat) (v : Value) (xs : List Int) (w : World) (h : RBytes S w v xs) (hS : ∀ b, S b → b < n₀) (hn₀ : n₀ ≤ w.heap.size) (hl : xs.length ≤ 1000000)
    (hB : w.heap[bB]? = some (.cells #[v] 61 (0, 0))) : SeqNew n Try.prog 163 #[.pointer (some ⟨bB, 0, none⟩)] encsY RY n₀ xs.length (· = bB) (SY xs) (SpY xs) w := by
  intro l J Jx W hW hY h0
  have hRW := h.same (.of_below hW)
  have hBW := (hW.block bB (size_of_box hB)).trans hB
  have hnW := hW.size
  have h1n : 1 ≤ n := by omega
  obtain ⟨a, cap, rfl, h1, h2⟩ := RSl.shape h
  have HY := Lib.hid hY
  have HS := Lib.hid hS
  clear hY hS h hB
  refine callsIn_of_wp Try.func163 rfl trivial ?_ rfl
  simp only [Try.ntmps163, List.size_toArray, List.length_cons, List.length_nil, Nat.reduceAdd, Nat.reduceSub, Array.replicate_succ, Array.replicate_zero, List.push_toArray, List.append_toArray, List.nil_append, List.cons_append]
  gi_wp2
  gi_loopw [3] (fun i wr => ∃ (ys : List Yd) (p : Nat), i = .int .i64 p ∧ p ≤ xs.length ∧ Hid (SplitAt xs (ys.map (·.x)) p) ∧ Hid (∀ y ∈ ys, y.e = 0) ∧ Hid (J ys wr) ∧ RBytes S wr (.slice a xs.length cap) xs ∧ wr.heap[bB]? = some (.cells #[.slice a xs.length cap] 61 (0, 0)) ∧ n₀ ≤ wr.heap.size) (fun i _ => xs.length - (intOf i).toNat)
  case atStart => exact ⟨[], 0, rfl, Nat.zero_le _, Lib.hid (SplitAt.start xs), Lib.hid (fun _ h => by cases h), Lib.hid h0, hRW, hBW, by omega⟩
  case round =>
    obtain ⟨ys, p, rfl, hp, hat, hys, hJ, hR, hBr, hnr⟩ := hrel
    obtain ⟨-, hc, hf⟩ := own_box (Below.refl _ wr) (size_of_box hBr) hBr
    have hc0 : wr.cell? ⟨bB, 0, none⟩ = some (.slice a xs.length cap) := by simpa using hc 0
    have hf0 := hf 0
    clear hc hf
    have hys2 : ys.length ≤ xs.length := by have := hat.out.2.1; rw [List.length_map] at this; omega
    by_cases hlt : p < xs.length
    · have hT := octTakeField S _ xs p wr hR hp hl
      rcases ht : takeG xs p with _ | ⟨x, q⟩
      · have hN := hat.out.none hlt ht
        have hT' := hT.mono (fun e w' (hh : TakeGives xs p wr e w') => by rw [TakeGives, ht] at hh; exact hh)
        have hSp : SpY xs (ys ++ [⟨.slice none 0 0, [], 10⟩]) := fun _ => hN
        have hSy : SY xs (ys ++ [⟨.slice none 0 0, [], 10⟩]) := .inr ⟨⟨.slice none 0 0, [], 10⟩, by simp, by simp⟩
        have hYr := fun W1 hb => HY.out ys ⟨.slice none 0 0, [], 10⟩ wr W1 hJ.out hys2 hb (.inr ⟨rfl, rfl⟩)
        have HSp := Lib.hid hSp; have HSy := Lib.hid hSy; have HT := Lib.hid hT'; have HYr := Lib.hid hYr
        clear hSp hSy hT hT' hYr ht hN
        gi_wp2_with (refine ⟨trivial, ?_⟩; gi_at_call 164; refine (callsIn_wide.2 HT.out).mono ?_; rintro e w1 ⟨rfl, hb1⟩; obtain ⟨fn, tmps, assign, body, hy, hRd⟩ := HYr.out w1 hb1; dsimp only [encsY] at hy)
        refine hRd.mono ?_
        rintro e W' (⟨rfl, hJ', hk⟩ | ⟨rfl, hJx'⟩)
        · gi_wp2
          refine bodyPost_ret (results_none rfl _ _ _) rfl ?_
          exact ⟨⟨_, rfl⟩, .inl ⟨_, HSy.out, hJ'⟩⟩
        · gi_wp2
          refine bodyPost_ret (results_none rfl _ _ _) rfl ?_
          exact ⟨⟨_, rfl⟩, .inr ⟨_, HSp.out, hJx'⟩⟩
      · have hA := hat.out.some hlt ht
        obtain ⟨k1, k2, k3⟩ := takeG_some ht
        have hxl : x.length ≤ 1000000 := by
          unfold takeG at ht
          split at ht
          · cases ht
          · split at ht
            · cases ht
            · simp at ht
              obtain ⟨rfl, -⟩ := ht
              rw [List.length_take, List.length_drop]; omega
        have hT' := hT.mono (fun e w' (hh : TakeGives xs p wr e w') => by rw [TakeGives, ht] at hh; exact hh)
        have hYr := fun W1 a1 c1 hb ho => HY.out ys ⟨.slice a1 x.length c1, x, 0⟩ wr W1 hJ.out hys2 hb (.inl ⟨rfl, hxl, a1, c1, rfl, ho⟩)
        have hSp : ∀ u, SpY xs (ys ++ [⟨u, x, 0⟩]) := fun u ⟨y, hy, hy0⟩ => by
          rcases List.mem_append.1 hy with hy | hy
          · exact absurd (hys.out y hy) hy0
          · simp at hy; subst hy; exact absurd rfl hy0
        have hE : ∀ u : Value, ∀ y ∈ ys ++ [(⟨u, x, 0⟩ : Yd)], y.e = 0 := fun u y hy => by
          rcases List.mem_append.1 hy with hy | hy
          · exact hys.out y hy
          · simp at hy; subst hy; rfl
        have HSp := Lib.hid hSp; have HT := Lib.hid hT'; have HYr := Lib.hid hYr; have HA := Lib.hid hA; have HE := Lib.hid hE
        clear hSp hT hT' hYr ht hA hE
        gi_wp2_with (refine ⟨trivial, ?_⟩; gi_at_call 164; refine (callsIn_wide.2 HT.out).mono ?_; rintro e w1 ⟨a1, c1, rfl, ho, hb1⟩; obtain ⟨fn, tmps, assign, body, hy, hRd⟩ := HYr.out w1 a1 c1 hb1 ho; dsimp only [encsY] at hy)
        refine hRd.mono ?_
        rintro e W' (⟨rfl, hJ', hk, hkb⟩ | ⟨rfl, hJx'⟩)
        · have hk0 := hkb bB rfl
          have hl1 := hb1.size
          gi_wp2
          refine ⟨⟨_, q, rfl, k2, Lib.hid ?_, Lib.hid (HE.out _), Lib.hid hJ', (hR.same (.of_below hb1)).same (fun b hb hs => hk.block b (HS.out b hs)), hk0.trans ((hb1.block bB (size_of_box hBr)).trans hBr), ?_⟩, ?_⟩
          · simpa using HA.out
          · have := hk.size; omega
          · simp [intOf]; omega
        · gi_wp2
          refine bodyPost_ret (results_none rfl _ _ _) rfl ?_
          exact ⟨⟨_, rfl⟩, .inr ⟨_, HSp.out _, hJx'⟩⟩
    · have hN := hat.out.over hlt
      have hSy : SY xs ys := .inl ⟨hys.out, hN⟩
      have HSy := Lib.hid hSy
      clear hSy hN
      gi_wp2
      go_end0
      exact ⟨⟨_, rfl⟩, .inl ⟨ys, HSy.out, hJ.out⟩⟩
theorem octFields (a : Option Addr) (n c : Nat) (w : World) : Calls Try.prog 129 #[.slice a n c] w fun e w' => e = .returned (.func (.func 163) #[] #[.pointer (some ⟨w.heap.size, 0, none⟩)]) ∧ w' = w.alloc (.cells #[.slice a n c] 61) := by
  go_enter Try.func129, Try.ntmps129
  go_wp2
  go_ret
  exact ⟨rfl, rfl⟩
theorem OwnX.putObj {α : Type} {base : Nat} {e : TypeId} {n : Nat} {dec : (Nat → Prop) → World → List Value → α → Prop} (F : Fam dec) {w : World} {v : Value} {xs : List α} (h : OwnX base e n dec w v xs) {l : Nat} (hl : l < base) (o : Obj) : OwnX base e n dec (w.putObj l o) v xs :=
  Own.dmono (fun _ _ hd => F.mono (fun _ hb => ⟨hb.1, by simpa using hb.2.1, hb.2.2⟩) hd)
    (Own.kept (F.stable _) h (grownBy_putObj' w l o) (by
      cases hv : v.ownBlock with
      | none => exact .inl rfl
      | some k => exact .inr (fun e => by cases e; have := (Own.lt h _ hv).1; omega)) (fun b _ hs => World.putObj_heap_other (fun e => by have := hs.1; omega)))
theorem OwnX.low {α : Type} {b b' : Nat} {e : TypeId} {n : Nat} {dec : (Nat → Prop) → World → List Value → α → Prop} (F : Fam dec) (hb : b' ≤ b) {w : World} {v : Value} {xs : List α} (h : OwnX b e n dec w v xs) : OwnX b' e n dec w v xs := by
  obtain ⟨cells, ⟨h1, h2⟩, hd⟩ := Own.dmono (d' := dec (Rg b' w v)) (fun _ _ hd => F.mono (fun _ hx => ⟨Nat.le_trans hb hx.1, hx.2⟩) hd) h
  refine ⟨cells, ⟨h1, ?_⟩, hd⟩
  rcases h2 with h2 | ⟨g, cap, cur, rfl, hg, hr⟩
  · exact .inl h2
  · exact .inr ⟨g, cap, cur, rfl, Nat.le_trans hb hg, hr⟩
theorem OwnX.cells {α : Type} {base : Nat} {e : TypeId} {n : Nat} {dec : (Nat → Prop) → World → List Value → α → Prop} {w : World} {v : Value} {xs : List α} (h : OwnX base e n dec w v xs) (j : Nat) (o : Obj) (hj : v.ownBlock = some j) (ho : w.heap[j]? = some o) : o.isCells = true := by
  obtain ⟨cells, hw, _⟩ := h
  rcases hw.2 with ⟨rfl, _⟩ | ⟨g, cap, cur, rfl, _, hg, _⟩
  · cases hj
  · cases hj; rw [hg] at ho; cases ho; rfl
theorem field_here {m base : Nat} {w w' : World} {v ov : Value} {x : List Int} {ys : List (List Int)} (h : Own m 5 1 (dInt .u8) w' v x) (hx : x.length ≤ 1000000) (ho : OwnX base 61 1 dField w ov ys) (hb : base ≤ m) (hm : m = w.heap.size) :
    dField (Rg base w' ov) w' [v] x := by
  subst hm
  refine ⟨v, rfl, ?_⟩
  have hr := OwnX.rsl (famInt .u8) (by omega) (show OwnX w.heap.size 5 1 (fun _ => dInt .u8) w' v x from h) (by omega)
  refine RSl.mono (fun _ _ _ h => h) (fun b hb' => ⟨Nat.le_trans hb hb'.1, hb'.2, fun he => ?_⟩) hr
  have := (Own.lt ho b he.symm).2
  have := hb'.1; omega
set_option maxHeartbeats 4000000 in
set_option maxRecDepth 100000 in
theorem octSplit (S : Nat → Prop) (v : Value) (xs : List Int) (w : World) (h : RBytes S w v xs) (hl : xs.length ≤ 1000000) :
    Calls Try.prog 88 #[v] w (SplitGives xs w) := by
  refine (callsIn_wide (n := 8)).1 ?_
  have hC : RBytes (Cut S w.heap.size) w v xs := RSl.cut (by omega) (fun _ _ h => h) h
  obtain ⟨a, cap, rfl, h1, h2⟩ := RSl.shape h
  refine callsIn_of_wp_marks Try.func88 rfl trivial ?_ rfl
  simp only [Try.ntmps88, List.size_toArray, List.length_cons, List.length_nil, Nat.reduceAdd, Nat.reduceSub, Array.replicate_succ, Array.replicate_zero, List.push_toArray, List.append_toArray, List.nil_append, List.cons_append]
  have h18 : 1 ≤ 8 := by omega
  by_cases hlong : 16384 < xs.length
  · have hG : ∀ w', Below w.heap.size w w' → SplitGives xs w (.returned (.tuple #[.slice none 0 0, .int .i64 4])) w' := fun w' hb => ⟨_, by rw [splitE, if_pos hlong], by rw [splitV, if_pos hlong]; exact OwnX.nil _ _ _ _ _, hb⟩
    have HG := Lib.hid hG
    clear hG
    gi_wp2
    refine ⟨.tuple #[.slice none 0 0, .int .i64 4], ?_, HG.out _ (((Below.refl _ w).alloc (Nat.le_refl _) _).alloc (by simp) _)⟩
    have e0 : ((w.alloc (.cells #[.slice none 0 0] 140)).alloc (.cells #[.int .i64 4] 30)).heap[w.heap.size]? = some (.cells #[.slice none 0 0] 140 (0, 0)) := box_old _ (box_new _ _)
    have e1 : ((w.alloc (.cells #[.slice none 0 0] 140)).alloc (.cells #[.int .i64 4] 30)).heap[w.heap.size + 1]? = some (.cells #[.int .i64 4] 30 (0, 0)) := by
      have := box_new (w.alloc (.cells #[.slice none 0 0] 140)) (.cells #[.int .i64 4] 30)
      rwa [World.size_alloc] at this
    have hc0 : ((w.alloc (.cells #[.slice none 0 0] 140)).alloc (.cells #[.int .i64 4] 30)).cell? ⟨w.heap.size, 0, none⟩ = some (.slice none 0 0) := (own_box (Below.refl _ _) (size_of_box e0) e0).2.1 0
    have hc1 : ((w.alloc (.cells #[.slice none 0 0] 140)).alloc (.cells #[.int .i64 4] 30)).cell? ⟨w.heap.size + 1, 0, none⟩ = some (.int .i64 4) := (own_box (Below.refl _ _) (size_of_box e1) e1).2.1 0
    simp [results, Try.results88, go_sem, hc0, hc1]
  · have hBad := fun w' hg hb => SplitGives.bad (w := w) (w' := w') hlong hg hb
    have hGood := fun w' v ys hg ho hb => SplitGives.good (w := w) (w' := w') (v := v) (ys := ys) hlong hg ho hb
    have HBad := Lib.hid hBad; have HGood := Lib.hid hGood
    clear hBad hGood
    gi_wp2_with (refine ⟨trivial, ?_⟩; gi_at_call 129; refine (callsIn_wide.2 (octFields _ _ _ _)).mono ?_; rintro e w1 ⟨rfl, rfl⟩)
    obtain ⟨w1, hw1⟩ : ∃ w1, w1 = ((w.alloc (.cells #[.slice none 0 0] 140)).alloc (.cells #[.int .i64 0] 30)).alloc (.cells #[.slice a xs.length cap] 61) := ⟨_, rfl⟩
    have hsz : w1.heap.size = w.heap.size + 3 := by rw [hw1]; simp
    have hb1 : Below w.heap.size w w1 := by rw [hw1]; exact (((Below.refl _ w).alloc (Nat.le_refl _) _).alloc (by simp) _).alloc (by simp; omega) _
    have g0 : w1.heap[w.heap.size]? = some (.cells #[.slice none 0 0] 140 (0, 0)) := by rw [hw1]; exact box_old _ (box_old _ (box_new _ _))
    have g1 : w1.heap[w.heap.size + 1]? = some (.cells #[.int .i64 0] 30 (0, 0)) := by
      rw [hw1]
      have := box_new (w.alloc (.cells #[.slice none 0 0] 140)) (.cells #[.int .i64 0] 30)
      rw [World.size_alloc] at this
      exact box_old _ this
    have g2 : w1.heap[w.heap.size + 2]? = some (.cells #[.slice a xs.length cap] 61 (0, 0)) := by
      rw [hw1]
      have := box_new ((w.alloc (.cells #[.slice none 0 0] 140)).alloc (.cells #[.int .i64 0] 30)) (.cells #[.slice a xs.length cap] 61)
      rwa [World.size_alloc, World.size_alloc] at this
    rw [← hw1]
    refine wpIn_rangeFunc_new (n := 8) (gf := 163) (lb := #[.pointer (some ⟨w.heap.size + 2, 0, none⟩)]) rfl (enters_of Try.func163 (by kernel_rfl) rfl)
      (fields1 7 (by omega) (Cut S w.heap.size) w.heap.size (w.heap.size + 2) _ xs w1 (hC.same (.of_below hb1)) (fun b hb => hb.2) (by omega) hl g2) (by omega) (fun b hb => by omega) (Below.refl _ _) (fun _ => rfl)
      (fun pre W => ∃ ov, W.heap[w.heap.size]? = some (.cells #[ov] 140 (0, 0)) ∧ W.heap[w.heap.size + 1]? = some (.cells #[.int .i64 0] 30 (0, 0)) ∧ OwnX (w.heap.size + 5) 61 1 dField W ov (pre.map (·.x)) ∧ Hid (∀ y ∈ pre, y.e = 0) ∧ Below w.heap.size w W ∧ w.heap.size + 5 ≤ W.heap.size)
      (fun pre W => W.heap[w.heap.size]? = some (.cells #[.slice none 0 0] 140 (0, 0)) ∧ W.heap[w.heap.size + 1]? = some (.cells #[.int .i64 10] 30 (0, 0)) ∧ Hid (∃ y ∈ pre, y.e ≠ 0) ∧ Below w.heap.size w W)
      ?ip ?ixp ?h0 ?a1 ?assign ?body ?done ?stop
    case assign =>
      intro l x W K hK
      simp [encsY]
      gi_wp2
      exact hK
    case ip =>
      rintro s W l o h3 h4 ⟨ov, c0, c1, ho, hy, hb, hz⟩
      refine ⟨ov, (World.putObj_heap_other (by omega)).trans c0, (World.putObj_heap_other (by omega)).trans c1, ho.putObj famField (by omega) o, hy, hb.grown (grownBy_putObj' W l o) hb.size (fun k e => by cases e; omega), by simpa using hz⟩
    case ixp =>
      rintro s W l o h3 h4 ⟨c0, c1, hy, hb⟩
      exact ⟨(World.putObj_heap_other (by omega)).trans c0, (World.putObj_heap_other (by omega)).trans c1, hy, hb.grown (grownBy_putObj' W l o) hb.size (fun k e => by cases e; omega)⟩
    case h0 =>
      intro W hb hz
      exact ⟨_, (hb.block _ (by omega)).trans g0, (hb.block _ (by omega)).trans g1, OwnX.nil _ _ _ _ _, Lib.hid (fun _ h => by cases h), hb1.trans (hb.mono (by omega)), by omega⟩
    case body =>
      rintro l pre ⟨yv, yx, ye⟩ W0 W1 o ⟨ov, c0, c1, ho, hy, hb, hz⟩ hN hlt hbW hR
      obtain ⟨W2, hW2⟩ : ∃ W2, W2 = W1.putObj (w1.heap.size + 1) o := ⟨_, rfl⟩
      rw [← hW2]
      have hs1 := hbW.size
      have hs2 : W2.heap.size = W1.heap.size := by rw [hW2]; simp
      have hoth : ∀ b, b ≠ w1.heap.size + 1 → W2.heap[b]? = W1.heap[b]? := fun b hb => by rw [hW2]; exact World.putObj_heap_other hb
      have d0 : W2.heap[w.heap.size]? = some (.cells #[ov] 140 (0, 0)) := (hoth _ (by omega)).trans ((hbW.block _ (by omega)).trans c0)
      have d1 : W2.heap[w.heap.size + 1]? = some (.cells #[.int .i64 0] 30 (0, 0)) := (hoth _ (by omega)).trans ((hbW.block _ (by omega)).trans c1)
      have k0 := own_box (Below.refl _ W2) (size_of_box d0) d0
      have k1 := own_box (Below.refl _ W2) (size_of_box d1) d1
      have kc0 : W2.cell? ⟨w.heap.size, 0, none⟩ = some ov := k0.2.1 0
      have kc1 : W2.cell? ⟨w.heap.size + 1, 0, none⟩ = some (.int .i64 0) := k1.2.1 0
      have kf0 := k0.2.2 0
      have kf1 := k1.2.2 0
      have hb2 : Below w.heap.size w W2 := by rw [hW2]; exact (hb.trans (hbW.mono (by omega))).grown (grownBy_putObj' _ _ _) (by have := hb.size; omega) (fun k e => by cases e; omega)
      have ho2 : OwnX (w.heap.size + 5) 61 1 dField W2 ov (pre.map (·.x)) := by rw [hW2]; exact (ho.below famField hbW).putObj famField (by omega) o
      obtain ⟨aov, cov, hov⟩ := ho2.shape
      rw [List.length_map] at hov
      subst hov
      have Hho := Lib.hid ho
      clear k0 k1 hoth ho c0 c1
      rcases hR with ⟨he, hyl, a1, c1, hv, hof⟩ | ⟨he, hv⟩
      · simp only at he hv hyl hof
        subst he hv
        have hD1 := field_here hof hyl Hho.out (by omega) rfl
        have hD2 : dField (Rg (w.heap.size + 5) W2 (.slice aov pre.length cov)) W2 [.slice a1 yx.length c1] yx := by
          have hD := dField.stable _ _ W2 _ _ (fun b hb hs => by rw [hW2]; exact World.putObj_heap_other (by have := hs.1; omega)) hD1
          exact dField.mono (fun b hb => ⟨hb.1, by rw [hs2]; exact hb.2.1, hb.2.2⟩) hD
        have hD3 : dField (Rg (w.heap.size + 5) (W2.alloc (.cells #[.slice a1 yx.length c1] 61)) (.slice aov pre.length cov)) (W2.alloc (.cells #[.slice a1 yx.length c1] 61)) [.slice a1 yx.length c1] yx :=
          dField.mono (fun b hb => ⟨hb.1, by have := hb.2.1; simp; omega, hb.2.2⟩) (dField.stable _ _ _ _ _ (.of_below (below_new _ _)) hD2)
        have hO3 := ho2.below famField (below_new W2 (.cells #[.slice a1 yx.length c1] 61))
        have hpl : pre.length ≤ 1000000 := by omega
        have HD3 := Lib.hid hD3; have Hd0 := Lib.hid d0; have Hd1 := Lib.hid d1
        have hE : ∀ y ∈ pre ++ [(⟨.slice a1 yx.length c1, yx, 0⟩ : Yd)], y.e = 0 := fun y hy' => by
          rcases List.mem_append.1 hy' with hy' | hy'
          · exact hy.out y hy'
          · simp at hy'; subst hy'; rfl
        have HE := Lib.hid hE
        have hlm : (pre.map (·.x)).length = pre.length := by simp
        have Hlm := Lib.hid hlm
        have Hho2 := Lib.hid ho2
        have hge : w.heap.size + 5 ≤ W2.heap.size := by omega
        have HW2 := Lib.hid hW2; have Hsz := Lib.hid hsz; have Hs2 := Lib.hid hs2
        clear hD1 hD2 hD3 hof Hho d0 d1 hE hlm ho2 hy hW2 hsz hs2 hw1
        gi_wp2_with (gi_at_builtin; go_must (refine wpListIn_appX _ Try.infoField rfl rfl Try.underlying140 ⟨rfl, by omega, by omega⟩ famField (w.heap.size + 5) hO3 rfl (g := W2.heap.size) (cs := [.slice a1 yx.length c1]) (y := yx) (box_new _ _) rfl HD3.out rfl (by have := Hlm.out; omega) (by simp; omega) ?_); go_must (intro a' n' c' w3 hgr hO; have hne : ∀ b, b < w.heap.size + 5 → some b ≠ (Value.slice aov pre.length cov).ownBlock := fun b hb e => (by have := (Own.lt hO3 b e.symm).1; omega); have e0 := (hgr.block w.heap.size (by simp; omega) (hne _ (by omega))).trans (box_old _ Hd0.out); have q0 := own_box (Below.refl _ w3) (size_of_box e0) e0; have q1 := q0.2.1 0; have q2 := q0.2.2 0))
        have hb3 := hb2.alloc hb2.size (.cells #[.slice a1 yx.length c1] 61)
        have hsz3 := hgr.size
        rw [World.size_alloc] at hsz3
        refine ⟨?_, ?_, ?_, _, heap_setCell_at e0 _, ?_, ?_, Lib.hid HE.out, ?_, ?_⟩
        · exact (KeepsOthers.alloc _ _).trans ((KeepsOthers.of_grownBy hgr (fun j o' hj ho' => OwnX.cells hO3 j o' hj ho')).trans (KeepsOthers.setCell _ _ _))
        · exact ((((Below.refl w.heap.size W2).alloc (by omega) _).grown hgr (by simp; omega) (fun k e => by have := (Own.lt hO3 k e).1; omega)).setCell (p := ⟨w.heap.size, 0, none⟩) (Nat.le_refl _) _)
        · rintro b rfl
          refine (Below.heap_setCell _ _ _ _ (by simp)).trans ((hgr.block _ (by simp; omega) (hne _ (by omega))).trans ?_)
          exact (below_new W2 _).block _ (by omega)
        · refine (Below.heap_setCell _ _ _ _ (by simp)).trans ((hgr.block _ (by simp; omega) (hne _ (by omega))).trans ?_)
          exact box_old _ Hd1.out
        · have := hO.setCell famField (p := ⟨w.heap.size, 0, none⟩) (by simp) (.slice a' n' c')
          simpa using this
        · exact (hb3.grown hgr (by simp; omega) (fun k e => by have := (Own.lt hO3 k e).1; omega)).setCell (p := ⟨w.heap.size, 0, none⟩) (Nat.le_refl _) _
        · rw [size_setCell']; omega
      · simp only at he hv
        subst he hv
        have hge : w.heap.size + 5 ≤ W2.heap.size := by omega
        have Hd0 := Lib.hid d0; have Hd1 := Lib.hid d1
        clear hsz hs2 hW2 hw1 d0 d1
        gi_wp2
        refine ⟨(KeepsOthers.setCell _ _ _).trans (KeepsOthers.setCell _ _ _), ?_, ?_, Lib.hid ⟨_, List.mem_append_right _ (List.mem_singleton_self _), by simp⟩, ?_⟩
        · exact (Below.heap_setCell _ _ _ _ (by simp)).trans (heap_setCell_at Hd0.out _)
        · have := (Below.heap_setCell W2 ⟨w.heap.size, 0, none⟩ (.slice none 0 0) (w.heap.size + 1) (by simp)).trans Hd1.out
          exact heap_setCell_at this _
        · exact (hb2.setCell (p := ⟨w.heap.size, 0, none⟩) (Nat.le_refl _) _).setCell (p := ⟨w.heap.size + 1, 0, none⟩) (by simp) _
    case done =>
      rintro ys W hS ⟨ov, c0, c1, ho, hy, hb, hz⟩ hK
      have hgd : splitG xs xs.length 0 = some (ys.map (·.x)) := by
        rcases hS with ⟨_, hS⟩ | ⟨y, hy1, hy2⟩
        · exact hS
        · exact absurd (hy.out y hy1) hy2
      obtain ⟨aov, cov, hov⟩ := ho.shape
      rw [List.length_map] at hov
      subst hov
      have k0 := own_box (Below.refl _ W) (size_of_box c0) c0
      have k1 := own_box (Below.refl _ W) (size_of_box c1) c1
      have kc0 : W.cell? ⟨w.heap.size, 0, none⟩ = some (.slice aov ys.length cov) := k0.2.1 0
      have kc1 : W.cell? ⟨w.heap.size + 1, 0, none⟩ = some (.int .i64 0) := k1.2.1 0
      have kf0 := k0.2.2 0
      have kf1 := k1.2.2 0
      obtain ⟨W3, hW3⟩ : ∃ W3, W3 = (W.setCell ⟨w.heap.size, 0, none⟩ (.slice aov ys.length cov)).setCell ⟨w.heap.size + 1, 0, none⟩ (.int .i64 0) := ⟨_, rfl⟩
      have e0 : W3.heap[w.heap.size]? = some (.cells #[.slice aov ys.length cov] 140 (0, 0)) := by
        rw [hW3]; exact (Below.heap_setCell _ _ _ _ (by simp)).trans (heap_setCell_at c0 _)
      have e1 : W3.heap[w.heap.size + 1]? = some (.cells #[.int .i64 0] 30 (0, 0)) := by
        rw [hW3]; exact heap_setCell_at ((Below.heap_setCell _ _ _ _ (by simp)).trans c1) _
      have hb3 : Below w.heap.size w W3 := by rw [hW3]; exact (hb.setCell (p := ⟨w.heap.size, 0, none⟩) (Nat.le_refl _) _).setCell (p := ⟨w.heap.size + 1, 0, none⟩) (by simp) _
      have hK3 : W3.heap[w1.heap.size]? = some (.deferred (some [])) := by
        rw [hW3]; exact (Below.heap_setCell _ _ _ _ (by simp; omega)).trans ((Below.heap_setCell _ _ _ _ (by simp; omega)).trans hK)
      have ho3 : OwnX (w.heap.size + 5) 61 1 dField W3 (.slice aov ys.length cov) (ys.map (·.x)) := by rw [hW3]; exact (ho.setCell famField (by simp) _).setCell famField (by simp) _
      have hR : SplitGives xs w (.returned (.tuple #[.slice aov ys.length cov, .int .i64 0])) (W3.putObj w1.heap.size (.deferred none)) := by
        exact HGood.out _ _ _ hgd (OwnX.low famField (by omega) (ho3.putObj famField (by omega) _)) (hb3.grown (grownBy_putObj' _ _ _) hb3.size (fun k e => by cases e; omega))
      have e0' : (W3.putObj w1.heap.size (.deferred none)).heap[w.heap.size]? = some (.cells #[.slice aov ys.length cov] 140 (0, 0)) := (World.putObj_heap_other (by omega)).trans e0
      have e1' : (W3.putObj w1.heap.size (.deferred none)).heap[w.heap.size + 1]? = some (.cells #[.int .i64 0] 30 (0, 0)) := (World.putObj_heap_other (by omega)).trans e1
      have f0 := (own_box (Below.refl _ _) (size_of_box e0') e0').2.1 0
      have f1 := (own_box (Below.refl _ _) (size_of_box e1') e1').2.1 0
      have HR := Lib.hid hR
      rw [hW3] at hK3 HR f0 f1
      clear hS hgd k0 k1 hW3 e0 e1 e0' e1' ho3 hb3 hR hw1 hsz ho hy hb hz
      gi_wp2
      refine ⟨by simp, .inl ⟨_, _, rfl, run_takeDeferred hK3, ?_⟩⟩
      exact ⟨.tuple #[.slice aov ys.length cov, .int .i64 0], by simp at f0 f1; simp [results, Try.results88, go_sem, f0, f1], HR.out⟩
    case stop =>
      rintro ys W hS ⟨c0, c1, hy, hb⟩ hK
      have hgd : splitG xs xs.length 0 = none := hS hy.out
      have hR : SplitGives xs w (.returned (.tuple #[.slice none 0 0, .int .i64 10])) (W.putObj w1.heap.size (.deferred none)) :=
        HBad.out _ hgd (hb.grown (grownBy_putObj' _ _ _) hb.size (fun k e => by cases e; omega))
      have e0' : (W.putObj w1.heap.size (.deferred none)).heap[w.heap.size]? = some (.cells #[.slice none 0 0] 140 (0, 0)) := (World.putObj_heap_other (by omega)).trans c0
      have e1' : (W.putObj w1.heap.size (.deferred none)).heap[w.heap.size + 1]? = some (.cells #[.int .i64 10] 30 (0, 0)) := (World.putObj_heap_other (by omega)).trans c1
      have f0 := (own_box (Below.refl _ _) (size_of_box e0') e0').2.1 0
      have f1 := (own_box (Below.refl _ _) (size_of_box e1') e1').2.1 0
      have HR := Lib.hid hR
      clear hS hgd e0' e1' hR hw1 hsz hy hb
      gi_wp2
      refine ⟨by simp, .inl ⟨_, _, rfl, run_takeDeferred hK, ?_⟩⟩
      exact ⟨.tuple #[.slice none 0 0, .int .i64 10], by simp at f0 f1; simp [results, Try.results88, go_sem, f0, f1], HR.out⟩
end Go.Proofs.Ytkjgddcjhikdgaa

/- What record.Read answers: plain definitions; the readings that its walks want. -/
namespace Go.Proofs.Ytkjgddcjhikdgaa
open Go Go.RowKit Go.Shelf

theorem RBytes.str {S : Nat → Prop} {w : World} {v : Value} {xs : List Int} (h : RBytes S w v xs) : (convert 61 9 v).run Try.prog w = .ok (.string (strOfNums xs)) w := by
  obtain ⟨a, cap, rfl, h1, h2⟩ := RSl.shape h
  rcases Nat.eq_zero_or_pos xs.length with h0 | h0
  · have hx : xs = [] := List.eq_nil_of_length_eq_zero h0
    subst hx
    cases a with
    | none => exact run_convert_bytes_nil w _ _ Try.underlying61 Try.underlying5 _ _ _ Try.underlying9
    | some ad =>
      have hl := run_loadCells_list (P := Try.prog) w ad ([] : List Value) (fun j v hj => by simp at hj)
      rw [run_convert_bytes_string w _ _ _ (some ad) _ cap Try.underlying61 Try.underlying5 Try.underlying9]
      exact run_bytesToString w ad 0 cap [] hl
  · obtain ⟨b, off, rfl, -, -⟩ := RBytes.byte h h0
    refine run_convert_bytes_arg w _ _ Try.underlying61 Try.underlying5 b off xs.length cap xs rfl (fun i hi => ?_) _ Try.underlying9
    obtain ⟨b', off', e, -, hc, -, -⟩ := RBytes.byte h hi
    simp only [Option.some.injEq, Addr.mk.injEq, and_true] at e
    obtain ⟨rfl, rfl⟩ := e
    rw [hc, getD_at0 hi]
theorem splitG_len {xs : List Int} : ∀ (f p : Nat) {ys : List (List Int)}, splitG xs f p = some ys → p ≤ xs.length → 2 * ys.length + p ≤ xs.length
  | 0, p, ys, h, hp => by
    unfold splitG at h
    split at h
    · cases h
    · cases h; simpa using hp
  | f + 1, p, ys, h, hp => by
    unfold splitG at h
    split at h
    · rename_i hlt
      rcases ht : takeG xs p with _ | ⟨x, q⟩
      · rw [ht] at h; cases h
      · rw [ht] at h
        obtain ⟨zs, hz, rfl⟩ := Option.map_eq_some_iff.1 h
        obtain ⟨k1, k2, -⟩ := takeG_some ht
        have := splitG_len f q hz k2
        simp only [List.length_cons]; omega
    · cases h; simpa using hp
theorem splitV_len (xs : List Int) : (splitV xs).length ≤ 16384 := by
  unfold splitV
  split
  · simp
  · rcases h : splitG xs xs.length 0 with _ | ys
    · simp
    · have := splitG_len _ _ h (Nat.zero_le _)
      simp; omega
theorem takeG_len {xs : List Int} {p : Nat} {x : List Int} {q : Nat} (h : takeG xs p = some (x, q)) : x.length ≤ xs.length := by
  unfold takeG at h
  split at h
  · cases h
  · split at h
    · cases h
    · simp at h
      obtain ⟨rfl, -⟩ := h
      rw [List.length_take, List.length_drop]; omega
theorem splitG_each {xs : List Int} : ∀ (f p : Nat) {ys : List (List Int)}, splitG xs f p = some ys → ∀ y ∈ ys, y.length ≤ xs.length
  | 0, p, ys, h => by
    unfold splitG at h
    split at h
    · cases h
    · cases h; simp
  | f + 1, p, ys, h => by
    unfold splitG at h
    split at h
    · rcases ht : takeG xs p with _ | ⟨x, q⟩
      · rw [ht] at h; cases h
      · rw [ht] at h
        obtain ⟨zs, hz, rfl⟩ := Option.map_eq_some_iff.1 h
        intro y hy
        rcases List.mem_cons.1 hy with rfl | hy
        · exact takeG_len ht
        · exact splitG_each f q hz y hy
    · cases h; simp
theorem splitV_each (xs : List Int) : ∀ y ∈ splitV xs, y.length ≤ 16384 := by
  unfold splitV
  split
  · simp
  · rcases h : splitG xs xs.length 0 with _ | ys
    · simp
    · intro y hy
      have := splitG_each _ _ h y hy
      omega
def fieldsOk (l : List (List Int)) : Bool := decide (2 ≤ l.length ∧ (l.getD 1 []).length = 2)
def candsOf (l : List (List Int)) : Int := (l.getD 1 []).getD 0 0
def kindOf (l : List (List Int)) : Int := (l.getD 1 []).getD 1 0
def btcOf (l : List (List Int)) : Btc := ⟨strOfNums (l.getD 0 []), (l.drop 2).map fun f => ⟨kindOf l, f⟩⟩
def readI (xs : List Int) : Int := if splitE xs ≠ 0 then splitE xs else if fieldsOk (splitV xs) then (if recCheck [btcOf (splitV xs)] (candsOf (splitV xs)) (kindOf (splitV xs)) = 0 then 0 else 11) else 11
def readV (xs : List Int) : Btc × Int × Int := if readI xs = 0 then (btcOf (splitV xs), candsOf (splitV xs), kindOf (splitV xs)) else (⟨⟨#[]⟩, []⟩, 0, 0)
/-- What a call of Read gives. -/
def ReadGives (xs : List Int) (w : World) (e : Ending) (w' : World) : Prop :=
  ∃ a c, e = .returned (.tuple #[.agg #[.string (readV xs).1.name, .slice a (readV xs).1.blts.length c], .int .i64 (readV xs).2.1, .int .u8 (readV xs).2.2, .int .i64 (readI xs)]) ∧
    RBlts Any w' (.slice a (readV xs).1.blts.length c) (readV xs).1.blts ∧ Below w.heap.size w w'
theorem ReadGives.bad {xs : List Int} {w w' : World} {i : Int} (h : readI xs = i) (hi : i ≠ 0) (hb : Below w.heap.size w w') : ReadGives xs w (.returned (.tuple #[.agg #[.string ⟨#[]⟩, .slice none 0 0], .int .i64 0, .int .u8 0, .int .i64 i])) w' := by
  have e : readV xs = (⟨⟨#[]⟩, []⟩, 0, 0) := by rw [readV, if_neg (by rw [h]; exact hi)]
  subst h
  refine ⟨none, 0, by rw [e]; rfl, by rw [e]; exact RSl.nil, hb⟩
theorem ReadGives.good {xs : List Int} {w w' : World} {a : Option Addr} {n c : Nat} {l : List (List Int)} (hl : splitV xs = l) (h : readI xs = 0) (hr : RBlts Any w' (.slice a n c) (btcOf l).blts) (hb : Below w.heap.size w w') :
    ReadGives xs w (.returned (.tuple #[.agg #[.string (btcOf l).name, .slice a n c], .int .i64 (candsOf l), .int .u8 (kindOf l), .int .i64 0])) w' := by
  subst hl
  have e : readV xs = (btcOf (splitV xs), candsOf (splitV xs), kindOf (splitV xs)) := by rw [readV, if_pos h]
  obtain ⟨a', c', hv, -, -⟩ := RSl.shape hr
  simp only [Value.slice.injEq] at hv
  obtain ⟨rfl, rfl, rfl⟩ := hv
  exact ⟨a, c, by rw [e, h], by rw [e]; exact hr, hb⟩
/-- A field in memory: its value and its cell. -/
theorem RSl.field {S T : Nat → Prop} {w : World} {a : Option Addr} {n cap : Nat} {l : List (List Int)} (h : RSl S 1 (dField T) w (.slice a n cap) l) {k : Nat} (hk : k < l.length) :
    ∃ b off a' c', a = some ⟨b, off, none⟩ ∧ S b ∧ b < w.heap.size ∧ w.cell? ⟨b, off + k, none⟩ = some (.slice a' l[k].length c') ∧ RBytes T w (.slice a' l[k].length c') l[k] := by
  obtain ⟨b, off, c, rfl, hS, hb, hc, v, e, hr⟩ := RSl.at1 h k hk
  simp only [List.cons.injEq, and_true] at e
  subst e
  obtain ⟨a', c', rfl, -, -⟩ := id (RSl.shape hr)
  exact ⟨b, off, a', c', rfl, hS, hb, hc, hr⟩
theorem kind_wf {x : Int} (h0 : 0 ≤ x) (h1 : x ≤ 255) : (Lit.int .i64 x).wf = true := by
  simp [Lit.wf, IntKind.min, IntKind.max, IntKind.bits, IntKind.signed]
  omega
theorem RBytes.all {S : Nat → Prop} {w : World} {v : Value} {xs : List Int} (h : RBytes S w v xs) : ∀ x ∈ xs, 0 ≤ x ∧ x ≤ 255 := by
  intro x hx
  obtain ⟨i, hi, rfl⟩ := List.getElem_of_mem hx
  obtain ⟨a, cap, rfl, -, -⟩ := RSl.shape h
  obtain ⟨-, -, -, -, -, h1, h2⟩ := RBytes.byte h hi
  exact ⟨h1, h2⟩
end Go.Proofs.Ytkjgddcjhikdgaa

/- The contract of record.Read. -/
namespace Go.Proofs.Ytkjgddcjhikdgaa
open Go Go.RowKit Go.Shelf

theorem marks_here {m base : Nat} {w w' : World} {mv ov : Value} {x : List Int} {ys : List Blt} (h : Own m 3 1 (dInt .i64) w' mv x) (hx : x.length ≤ 1000000) (ho : OwnX base 25 2 dBlt w ov ys) (hb : base ≤ m) (hm : w.heap.size ≤ m) :
    RInts (Rg base w' ov) w' mv x := by
  have hr := OwnX.rsl (famInt .i64) (by omega) (show OwnX m 3 1 (fun _ => dInt .i64) w' mv x from h) (by omega)
  refine RSl.mono (fun _ _ _ h => h) (fun b hb' => ⟨Nat.le_trans hb hb'.1, hb'.2, fun he => ?_⟩) hr
  have := (Own.lt ho b he.symm).2
  have := hb'.1; omega
theorem take_drop_succ {l : List (List Int)} {k : Nat} (h : k + 2 < l.length) : (l.drop 2).take (k + 1) = (l.drop 2).take k ++ [l[k + 2]] := by
  rw [List.take_succ_eq_append_getElem (by rw [List.length_drop]; omega), List.getElem_drop]
  congr 3
  omega
theorem wrap_u8 {x : Int} (h0 : 0 ≤ x) (h1 : x ≤ 255) : IntKind.i64.wrap x = x := by
  simp [IntKind.wrap, IntKind.bits, IntKind.signed]
  omega

set_option maxHeartbeats 8000000 in
set_option maxRecDepth 100000 in
theorem recordRead (S : Nat → Prop) (v : Value) (xs : List Int) (w : World) (h : RBytes S w v xs) (hl : xs.length ≤ 1000000) :
    Calls Try.prog 45 #[v] w (ReadGives xs w) := by
  have hW : Below w.heap.size w (w.alloc (.cells #[.string ⟨#[]⟩, .slice none 0 0] 64)) := below_new _ _
  have hSp := octSplit S v xs (w.alloc (.cells #[.string ⟨#[]⟩, .slice none 0 0] 64)) (h.same (.of_below hW)) hl
  have hbx := box_new w (.cells #[.string ⟨#[]⟩, .slice none 0 0] 64)
  have hlen := splitV_len xs
  have heach := splitV_each xs
  have hBad : ∀ i w', readI xs = i → i ≠ 0 → Below w.heap.size w w' → _ := fun i w' => ReadGives.bad (xs := xs) (w := w) (w' := w') (i := i)
  have hGood : ∀ w' a n c, readI xs = 0 → RBlts Any w' (.slice a n c) (btcOf (splitV xs)).blts → Below w.heap.size w w' → _ := fun w' a n c => ReadGives.good (xs := xs) (w := w) (w' := w') (a := a) (n := n) (c := c) (l := splitV xs) rfl
  obtain ⟨E, hE⟩ : ∃ E, splitE xs = E := ⟨_, rfl⟩
  obtain ⟨l, hL⟩ : ∃ l, splitV xs = l := ⟨_, rfl⟩
  have hI : readI xs = if E ≠ 0 then E else if fieldsOk l then (if recCheck [btcOf l] (candsOf l) (kindOf l) = 0 then 0 else 11) else 11 := by rw [readI, hE, hL]
  unfold SplitGives at hSp
  rw [hE, hL] at hSp
  rw [hL] at hlen heach hGood
  obtain ⟨a, cap, rfl, h1, h2⟩ := RSl.shape h
  clear hE hL
  by_cases hE : E = 0
  case neg =>
    rw [if_pos hE] at hI
    have hB := fun w' => hBad _ w' hI hE
    have HSp := Lib.hid hSp; have HB := Lib.hid hB; have Hbx := Lib.hid hbx
    clear hSp hB hBad hGood hI heach h hbx hlen hW
    go_enter Try.func45, Try.ntmps45
    go_wp2_with (go_at_call 88; refine HSp.out.mono ?_; rintro e w2 ⟨v2, rfl, ho2, hb2⟩; obtain ⟨a2, c2, rfl⟩ := ho2.shape; obtain ⟨gx1, hcx1, hfx1⟩ := own_box hb2 (by simp) Hbx.out)
    exact bodyPost_ret (v := .tuple #[.agg #[.string ⟨#[]⟩, .slice none 0 0], .int .i64 0, .int .u8 0, .int .i64 E]) (by simp [results, Try.results45, go_sem, hcx1]) rfl (HB.out _ ((((below_new w _).trans (hb2.mono (by simp))).setCell (p := ⟨w.heap.size, 0, none⟩) (Nat.le_refl _) _).setCell (p := ⟨w.heap.size, 1, none⟩) (Nat.le_refl _) _))
  subst hE
  rw [if_neg (by simp)] at hI
  by_cases hln : l.length < 2
  · have hB := fun w' => hBad 11 w' (by rw [hI, fieldsOk, if_neg]; simp; omega) (by omega)
    have HSp := Lib.hid hSp; have HB := Lib.hid hB; have Hbx := Lib.hid hbx
    clear hSp hB hBad hGood hI heach h hbx hlen hW
    have hlni : (l.length : Int) < 2 := by omega
    go_enter Try.func45, Try.ntmps45
    go_wp2_with (go_at_call 88; refine HSp.out.mono ?_; rintro e w2 ⟨v2, rfl, ho2, hb2⟩; obtain ⟨a2, c2, rfl⟩ := ho2.shape; obtain ⟨gx1, hcx1, hfx1⟩ := own_box hb2 (by simp) Hbx.out)
    exact bodyPost_ret (v := .tuple #[.agg #[.string ⟨#[]⟩, .slice none 0 0], .int .i64 0, .int .u8 0, .int .i64 11]) (by simp [results, Try.results45, go_sem, hcx1]) rfl (HB.out _ ((((below_new w _).trans (hb2.mono (by simp))).setCell (p := ⟨w.heap.size, 0, none⟩) (Nat.le_refl _) _).setCell (p := ⟨w.heap.size, 1, none⟩) (Nat.le_refl _) _))
  have hlni : ¬ (l.length : Int) < 2 := by omega
  have hk1 : 1 < l.length := by omega
  have hfld : ∀ w2 v2, OwnX (w.alloc (.cells #[.string ⟨#[]⟩, .slice none 0 0] 64)).heap.size 61 1 dField w2 v2 l → RSl (Span (w.heap.size + 1) w2.heap.size) 1 (dField (Span (w.heap.size + 1) w2.heap.size)) w2 v2 l := fun w2 v2 ho => by
    have := OwnX.rsl famField (by omega) ho (by omega)
    rwa [World.size_alloc] at this
  by_cases hf1 : l[1].length = 2
  case neg =>
    have hB := fun w' => hBad 11 w' (by rw [hI, fieldsOk, if_neg]; rw [List.getD, List.getElem?_eq_getElem hk1]; simp; omega) (by omega)
    have HSp := Lib.hid hSp; have HB := Lib.hid hB; have Hbx := Lib.hid hbx; have Hfld := Lib.hid hfld
    clear hSp hB hBad hGood hI heach h hbx hlen hW hfld
    have hf1i : ((l[1].length : Int) != 2) = true := bne_iff_ne.2 (by omega)
    go_enter Try.func45, Try.ntmps45
    go_wp2_with (go_at_call 88; refine HSp.out.mono ?_; rintro e w2 ⟨v2, rfl, ho2, hb2⟩; obtain ⟨a2, c2, rfl⟩ := ho2.shape; obtain ⟨gx1, hcx1, hfx1⟩ := own_box hb2 (by simp) Hbx.out; obtain ⟨b2, off2, a3, c3, rfl, -, -, hc3, -⟩ := RSl.field (Hfld.out _ _ ho2) hk1)
    exact bodyPost_ret (v := .tuple #[.agg #[.string ⟨#[]⟩, .slice none 0 0], .int .i64 0, .int .u8 0, .int .i64 11]) (by simp [results, Try.results45, go_sem, hcx1]) rfl (HB.out _ ((((below_new w _).trans (hb2.mono (by simp))).setCell (p := ⟨w.heap.size, 0, none⟩) (Nat.le_refl _) _).setCell (p := ⟨w.heap.size, 1, none⟩) (Nat.le_refl _) _))
  obtain ⟨p, q, hpq⟩ : ∃ p q, l[1] = [p, q] := by
    match hh : l[1], hf1 with
    | [p, q], _ => exact ⟨p, q, rfl⟩
  have hgd : l.getD 1 [] = [p, q] := by rw [List.getD, List.getElem?_eq_getElem hk1, hpq]; rfl
  have hcands : candsOf l = p := by rw [candsOf, hgd]; rfl
  have hkind : kindOf l = q := by rw [kindOf, hgd]; rfl
  have hname : (btcOf l).name = strOfNums l[0] := by rw [btcOf, List.getD, List.getElem?_eq_getElem (by omega)]; rfl
  have hblts : (btcOf l).blts = (l.drop 2).map (fun f => (⟨q, f⟩ : Blt)) := by rw [btcOf, hkind]
  have hfok : fieldsOk l = true := by rw [fieldsOk, hgd]; simp; omega
  rw [hfok, if_pos rfl, hcands, hkind] at hI
  rw [hcands, hkind, hname, hblts] at hGood
  have hbtc : btcOf l = ⟨strOfNums l[0], (l.drop 2).map (fun f => (⟨q, f⟩ : Blt))⟩ := by
    have : btcOf l = ⟨(btcOf l).name, (btcOf l).blts⟩ := rfl
    rw [this, hname, hblts]
  rw [hbtc] at hI
  obtain ⟨s0, hs0⟩ : ∃ s0, strOfNums l[0] = s0 := ⟨_, rfl⟩
  have hs0l : s0.size ≤ 16384 := by rw [← hs0, strOfNums_size]; exact heach _ (List.getElem_mem _)
  have hFa : ∀ w2 a2 c2, OwnX (w.alloc (.cells #[.string ⟨#[]⟩, .slice none 0 0] 64)).heap.size 61 1 dField w2 (.slice a2 l.length c2) l →
      ∃ b2 off2 a0 c0 b4 off4 c4, a2 = some ⟨b2, off2, none⟩ ∧ l.length ≤ c2 ∧ w.heap.size < b2 ∧ w.heap.size < b4 ∧ w2.cell? ⟨b2, off2, none⟩ = some (.slice a0 l[0].length c0) ∧ w2.cell? ⟨b2, off2 + 1, none⟩ = some (.slice (some ⟨b4, off4, none⟩) 2 c4) ∧
        w2.cell? ⟨b4, off4, none⟩ = some (.int .u8 p) ∧ w2.cell? ⟨b4, off4 + 1, none⟩ = some (.int .u8 q) ∧ (∀ W, Same (From (w.heap.size + 1)) w2 W → (convert 61 9 (.slice a0 l[0].length c0)).run Try.prog W = .ok (.string s0) W) ∧ (0 ≤ p ∧ p ≤ 255) ∧ (0 ≤ q ∧ q ≤ 255) := by
    intro w2 a2 c2 ho
    have hr := hfld _ _ ho
    obtain ⟨b2, off2, a0, c0, rfl, hS2, -, hc0, hr0⟩ := RSl.field hr (k := 0) (by omega)
    obtain ⟨b3, off3, a1, c1, e, -, -, hc1, hr1⟩ := RSl.field hr hk1
    simp only [Option.some.injEq, Addr.mk.injEq, and_true] at e
    obtain ⟨rfl, rfl⟩ := e
    have hr1' : RBytes (Span (w.heap.size + 1) w2.heap.size) w2 (.slice a1 2 c1) [p, q] := by rw [hpq] at hr1; exact hr1
    obtain ⟨b4, off4, rfl, hb4, hd0, hp0, hp1⟩ := RBytes.byte hr1' (k := 0) (by simp)
    obtain ⟨b5, off5, e, -, hd1, hq0, hq1⟩ := RBytes.byte hr1' (k := 1) (by simp)
    simp only [Option.some.injEq, Addr.mk.injEq, and_true] at e
    obtain ⟨rfl, rfl⟩ := e
    have hr4 := RSl.get1 hr1' 0 (by simp)
    obtain ⟨b6, off6, cap6, c6, e6, hS6, -, -⟩ := hr4
    simp only [Value.slice.injEq, Option.some.injEq, Addr.mk.injEq, and_true] at e6
    obtain ⟨⟨rfl, rfl⟩, -, rfl⟩ := e6
    obtain ⟨a7, cp, e7, hcl, -⟩ := RSl.shape hr
    simp only [Value.slice.injEq] at e7
    obtain ⟨-, -, rfl⟩ := e7
    have hcv := fun W (hW : Same (From (w.heap.size + 1)) w2 W) => RBytes.str (hr0.same (hW.mono fun b hb => hb.1))
    rw [hs0] at hcv
    rw [hpq] at hc1
    exact ⟨b2, off2, a0, c0, b4, off4, c1, rfl, hcl, by have := hS2.1; omega, by have := hS6.1; omega, hc0, hc1, hd0, hd1, hcv, ⟨hp0, hp1⟩, ⟨hq0, hq1⟩⟩
  rw [hs0] at hGood hI
  obtain ⟨R, hR⟩ : ∃ R, recCheck [(⟨s0, (l.drop 2).map (fun f => (⟨q, f⟩ : Blt))⟩ : Btc)] p q = R := ⟨_, rfl⟩
  have hChk := fun W v (hv : RBtcs Any W v [(⟨s0, (l.drop 2).map (fun f => (⟨q, f⟩ : Blt))⟩ : Btc)]) => recordCheck Any v _ p q W hv
  rw [hR] at hI hChk
  have HChk := Lib.hid hChk
  clear hChk hR
  have HSp := Lib.hid hSp; have HBad := Lib.hid hBad; have HGood := Lib.hid hGood; have Hbx := Lib.hid hbx; have Hfld := Lib.hid hfld; have HFa := Lib.hid hFa; have HI := Lib.hid hI; have Heach := Lib.hid heach
  clear hSp hBad hGood hI heach h hbx hW hfld hFa hcands hkind hname hblts hfok hbtc hgd hf1 hpq hs0
  go_enter Try.func45, Try.ntmps45
  go_wp2_with (go_at_call 88; refine HSp.out.mono ?_; rintro e w2 ⟨v2, rfl, ho2, hb2⟩; obtain ⟨a2, c2, rfl⟩ := ho2.shape; obtain ⟨gx1, hcx1, hfx1⟩ := own_box hb2 (by simp) Hbx.out; obtain ⟨b2, off2, a0, c0, b4, off4, c4, rfl, hcl, hlt2, hlt4, k0, k1, k2, k3, k4, ⟨hp0, hp1⟩, ⟨hq0, hq1⟩⟩ := HFa.out _ _ _ ho2)
  have hk0i : l ≠ [] := fun e => by rw [e] at hk1; simp at hk1
  have hk0a : (0 : Int) < (l.length : Int) := by omega
  have hk0b : 0 < l.length := by omega
  have hk0c : (l.length : Int) ≠ 0 := by omega
  have hk0d : ¬ (l.length : Int) ≤ 0 := by omega
  have hcv0 := k4 w2 (Same.refl _ _)
  have hSm : Same (From (w.heap.size + 1)) w2 (w2.setCell ⟨w.heap.size, 0, none⟩ (.string s0)).drew := fun b _ hb => Below.heap_setCell w2 ⟨w.heap.size, 0, none⟩ (.string s0) b (fun e => by have : w.heap.size + 1 ≤ b := hb; simp at e; omega)
  have hcv1 := k4 _ hSm
  have hcvd := k4 w2.drew (.of_below (Below.drew (Below.refl _ _)))
  have hne2 : b2 ≠ w.heap.size := by omega
  have hne4 : b4 ≠ w.heap.size := by omega
  have hKp : (w2.setCell ⟨w.heap.size, 0, none⟩ (.string s0)).drew.cell? ⟨b2, off2, none⟩ = some (.slice a0 l[0].length c0) ∧ (w2.setCell ⟨w.heap.size, 0, none⟩ (.string s0)).drew.cell? ⟨b2, off2 + 1, none⟩ = some (.slice (some ⟨b4, off4, none⟩) 2 c4) ∧ (w2.setCell ⟨w.heap.size, 0, none⟩ (.string s0)).drew.cell? ⟨b4, off4, none⟩ = some (.int .u8 p) ∧ (w2.setCell ⟨w.heap.size, 0, none⟩ (.string s0)).drew.cell? ⟨b4, off4 + 1, none⟩ = some (.int .u8 q) ∧ (convert 61 9 (.slice a0 l[0].length c0)).run Try.prog (w2.setCell ⟨w.heap.size, 0, none⟩ (.string s0)).drew = .ok (.string s0) (w2.setCell ⟨w.heap.size, 0, none⟩ (.string s0)).drew :=
    ⟨(World.cell?_setCell_other w2 _ _ _ (by intro hh; injection hh; omega)).trans k0, (World.cell?_setCell_other w2 _ _ _ (by intro hh; injection hh; omega)).trans k1, (World.cell?_setCell_other w2 _ _ _ (by intro hh; injection hh; omega)).trans k2, (World.cell?_setCell_other w2 _ _ _ (by intro hh; injection hh; omega)).trans k3, hcv1⟩
  have HKp := Lib.hid hKp
  clear hKp hcv1 hSm
  have K4 := Lib.hid k4
  clear k4
  go_region_held3 (fun w' => w'.cell? ⟨b2, off2, none⟩ = some (.slice a0 l[0].length c0) ∧ w'.cell? ⟨b2, off2 + 1, none⟩ = some (.slice (some ⟨b4, off4, none⟩) 2 c4) ∧ w'.cell? ⟨b4, off4, none⟩ = some (.int .u8 p) ∧ w'.cell? ⟨b4, off4 + 1, none⟩ = some (.int .u8 q) ∧ (convert 61 9 (.slice a0 l[0].length c0)).run Try.prog w' = .ok (.string s0) w') (first | exact HKp.out | (go_split_ands; exact HKp.out) | go_keep) (fail)
  obtain ⟨w3, hw3⟩ : ∃ w3, w3 = (w2.setCell ⟨w.heap.size, 0, none⟩ (.string s0)).drew := ⟨_, rfl⟩
  have gx3 : w3.heap[w.heap.size]? = some (.cells #[.string s0, .slice none 0 0] 64 (0, 0)) := by rw [hw3]; exact heap_setCell_at (o := 0) gx1 (.string s0)
  have hS3 : Same (From (w.heap.size + 1)) w2 w3 := by
    rw [hw3]
    exact fun b _ hb => Below.heap_setCell w2 ⟨w.heap.size, 0, none⟩ (.string s0) b (fun e => by have : w.heap.size + 1 ≤ b := hb; simp at e; omega)
  have hb3 : Below w.heap.size w w3 := by rw [hw3]; exact Below.drew (((below_new w _).trans (hb2.mono (by simp))).setCell (p := ⟨w.heap.size, 0, none⟩) (Nat.le_refl _) _)
  have hz3 : w3.heap.size = w2.heap.size := by rw [hw3]; exact size_setCell' _ _ _
  have hlt3 : w.heap.size < w3.heap.size := size_of_box gx3
  have hFd : ∀ W, Same (From (w.heap.size + 1)) w3 W → ∀ k (hk : k + 2 < l.length), ∃ a' c', W.cell? ⟨b2, off2 + 2 + k, none⟩ = some (.slice a' l[k + 2].length c') ∧ RBytes (From (w.heap.size + 1)) W (.slice a' l[k + 2].length c') l[k + 2] := by
    intro W hW k hk
    have hSW : Same (From (w.heap.size + 1)) w2 W := hS3.trans hW (by omega)
    have hr := RSl.same (dField.stable (From (w.heap.size + 1))) hSW (RSl.mono (S := Span (w.heap.size + 1) w2.heap.size) (fun _ _ _ h => dField.mono (fun b hb => hb.1) h) (fun b hb => hb.1) (Hfld.out _ _ ho2))
    obtain ⟨b', off', a', c', e, -, -, hc, hr'⟩ := RSl.field hr hk
    simp only [Option.some.injEq, Addr.mk.injEq, and_true] at e
    obtain ⟨rfl, rfl⟩ := e
    exact ⟨a', c', by rwa [show off2 + 2 + k = off2 + (k + 2) by omega], hr'⟩
  have HFd := Lib.hid hFd; have Hz3 := Lib.hid hz3; have HS3 := Lib.hid hS3
  rw [← hw3]
  clear hFd hz3 hS3 hw3 k0 k1 k2 k3 hcv0 hcvd HKp gx1 hcx1 hfx1 ho2 K4
  have hwp := wrap_u8 hp0 hp1
  go_wp2
  all_goals
    go_loopw [51] (fun i wr => ∃ (k : Nat) (ov : Value), i = .int .i64 k ∧ k + 2 ≤ l.length ∧ wr.heap[w.heap.size]? = some (.cells #[.string s0, ov] 64 (0, 0)) ∧ OwnX w3.heap.size 25 2 dBlt wr ov (((l.drop 2).take k).map (fun f => (⟨q, f⟩ : Blt))) ∧ Same (From (w.heap.size + 1)) w3 wr ∧ Below w.heap.size w wr ∧ w3.heap.size ≤ wr.heap.size) (fun i _ => l.length - 2 - (intOf i).toNat)
    case atStart => exact ⟨0, _, rfl, by omega, gx3, by simpa using OwnX.nil _ _ _ _ _, Same.refl _ _, hb3, Nat.le_refl _⟩
    case round =>
      obtain ⟨k, ov, rfl, hk2, hgB, hov, hSr, hbr, hzr⟩ := hrel
      have hnl : (((l.drop 2).take k).map (fun f => (⟨q, f⟩ : Blt))).length = k := by simp; omega
      obtain ⟨aov, cov, hsh⟩ := hov.shape
      rw [hnl] at hsh
      subst hsh
      obtain ⟨-, hcB, hfB⟩ := own_box (Below.refl _ wr) (size_of_box hgB) hgB
      have hcB0 : wr.cell? ⟨w.heap.size, 0, none⟩ = some (.string s0) := hcB 0
      have hcB1 : wr.cell? ⟨w.heap.size, 1, none⟩ = some (.slice aov k cov) := hcB 1
      have hfB1 := hfB 1
      clear hcB hfB
      by_cases hlt : k + 2 < l.length
      · first
        | (exfalso; omega; done)
        | (obtain ⟨a', c', hcf, hrf⟩ := HFd.out wr hSr k hlt
           have hfl : l[k + 2].length ≤ 16384 := Heach.out _ (List.getElem_mem _)
           have hki : k < l.length - 2 := by omega
           have Hnl := Lib.hid hnl; have Hov := Lib.hid hov; have HgB := Lib.hid hgB; have HSr := Lib.hid hSr; have Hhrf := Lib.hid hrf
           clear hnl hov hgB hSr hrf
           go_wp2
           obtain ⟨wo, rfl⟩ : ∃ wo, wo = wr := ⟨_, rfl⟩
           have hBo : w.heap.size < wo.heap.size := by omega
           go_loopw [59] (fun i wr => ∃ (j : Nat) (mv : Value), i = .int .i64 j ∧ j ≤ l[k + 2].length ∧ wr.heap[wo.heap.size]? = some (.cells #[.int .u8 q, mv] 25 (0, 0)) ∧ Own (wo.heap.size + 1) 3 1 (dInt .i64) wr mv (l[k + 2].take j) ∧ Below wo.heap.size wo wr ∧ wo.heap.size + 1 ≤ wr.heap.size) (fun i _ => l[k + 2].length - (intOf i).toNat)
           case atStart => exact ⟨0, _, rfl, Nat.zero_le _, box_new _ _, Own.nil _ _ _ _ _, below_new _ _, by simp⟩
           case round =>
             obtain ⟨j, mv, rfl, hj, hgM, hmv, hbi, hzi⟩ := hrel
             have hml : (l[k + 2].take j).length = j := by simp; omega
             obtain ⟨am, cm, hsm⟩ := Own.shape hmv
             rw [hml] at hsm
             subst hsm
             obtain ⟨-, hcM, hfM⟩ := own_box (Below.refl _ wr) (size_of_box hgM) hgM
             have hcM0 : wr.cell? ⟨wo.heap.size, 0, none⟩ = some (.int .u8 q) := hcM 0
             have hcM1 : wr.cell? ⟨wo.heap.size, 1, none⟩ = some (.slice am j cm) := hcM 1
             have hfM1 := hfM 1
             clear hcM hfM
             by_cases hjl : j < l[k + 2].length
             · obtain ⟨bf, offf, rfl, -, hcb, hb0, hb255⟩ := RBytes.byte (RBytes.same (.of_below hbi) Hhrf.out) hjl
               have hwb := wrap_u8 hb0 hb255
               have hnw : Below wr.heap.size wr (wr.alloc (.cells #[.int .i64 l[k + 2][j]] 3)) := below_new _ _
               have hOw := Own.below (S := fun _ => False) (dInt.stable _ _) hmv hnw
               have hlo := fun b hbk => (Own.lt hmv b hbk).1
               have hu : RSl (From 0) 1 (dInt .i64) (wr.alloc (.cells #[.int .i64 l[k + 2][j]] 3)) (.slice (some ⟨wr.heap.size, 0, none⟩) 1 1) [l[k + 2][j]] := RSl.built (Nat.zero_le _) (box_new _ _) rfl ⟨rfl, kind_wf hb0 hb255⟩
               have hts : l[k + 2].take (j + 1) = l[k + 2].take j ++ [l[k + 2][j]] := List.take_succ_eq_append_getElem hjl
               have Hml := Lib.hid hml; have HOw := Lib.hid hOw; have Hlo := Lib.hid hlo; have Hu := Lib.hid hu; have Hts := Lib.hid hts; have HgM := Lib.hid hgM; have Hnw := Lib.hid hnw
               clear hml hOw hlo hu hts hgM hmv hnw
               go_wp2_with (at_builtin; go_must (refine wpList_appV _ Try.infoInt rfl rfl Try.underlying23 ⟨rfl, by omega, by omega⟩ (dInt.one _) (dInt.stable (fun _ => False) _) (wo.heap.size + 1) HOw.out rfl Hu.out rfl (by rw [Hml.out]; simp; omega) (by simp; omega) ?_); intro a1 n1 c1 w1 hg hat ho1; have ho2 := ho1 (fun _ _ h => h.elim); have hne1 : some wo.heap.size ≠ (Value.slice am j cm).ownBlock := fun e => (by have := Hlo.out _ e.symm; omega); have gM := (hg.block wo.heap.size (by simp; omega) hne1).trans (box_old _ HgM.out); obtain ⟨-, q1, q2⟩ := own_box (Below.refl _ w1) (size_of_box gM) gM; have Ho2 := Lib.hid ho2; have Hg := Lib.hid hg; have Hat := Lib.hid hat; clear ho1 ho2 hg hat)
               have hn1 : n1 = j + 1 := by
                 have h3 := Ho2.out
                 obtain ⟨a9, c9, e9⟩ := Own.shape h3
                 simp only [Value.slice.injEq] at e9
                 rw [e9.2.1, List.length_append, Hml.out]
                 rfl
               refine ⟨⟨j + 1, .slice a1 n1 c1, by go_num, by omega, heap_setCell_at (o := 1) gM _, ?_, ?_, ?_⟩, by simp [intOf]; omega⟩
               · rw [Hts.out]
                 exact Own.setCell (dInt.stable (fun _ => False) _) Ho2.out (p := ⟨wo.heap.size, 1, none⟩) (by simp) (fun h => h) _
               · exact ((hbi.trans (Hnw.out.mono (by omega))).grown Hg.out (by simp; omega) (fun b hb => by have := Hlo.out b hb; omega)).setCell (p := ⟨wo.heap.size, 1, none⟩) (Nat.le_refl _) _
               · rw [size_setCell']; have := Hg.out.size; simp at this; omega
             · have hje : j = l[k + 2].length := by omega
               rw [List.take_of_length_le (by omega)] at hmv
               have gB := keep_box (hbi.mono (Nat.le_refl _)) HgB.out
               obtain ⟨-, hcB, hfB⟩ := own_box (Below.refl _ wr) (size_of_box gB) gB
               have kB1 : wr.cell? ⟨w.heap.size, 1, none⟩ = some (.slice aov k cov) := hcB 1
               have kfB1 := hfB 1
               have hovr := Hov.out.below famBlt hbi
               have hso := hbi.size
               have hmk := marks_here hmv (by omega) Hov.out (base := w3.heap.size) (by omega) (by omega)
               have hD : dBlt (Rg w3.heap.size (wr.alloc (.cells #[.int .u8 q, .slice am j cm] 25)) (.slice aov k cov)) (wr.alloc (.cells #[.int .u8 q, .slice am j cm] 25)) [.int .u8 q, .slice am j cm] ⟨q, l[k + 2]⟩ :=
                 ⟨_, rfl, hq0, hq1, RInts.mono (fun b (hb : Rg w3.heap.size wr (.slice aov k cov) b) => ⟨hb.1, by have := hb.2.1; rw [World.size_alloc]; omega, hb.2.2⟩) (RInts.same (.of_below (below_new _ _)) hmk)⟩
               have hO2 := hovr.below famBlt (below_new wr (.cells #[.int .u8 q, .slice am j cm] 25))
               have hts : ((l.drop 2).take (k + 1)).map (fun f => (⟨q, f⟩ : Blt)) = ((l.drop 2).take k).map (fun f => (⟨q, f⟩ : Blt)) ++ [⟨q, l[k + 2]⟩] := by rw [take_drop_succ hlt, List.map_append]; rfl
               have hne : ∀ b, b < w3.heap.size → some b ≠ (Value.slice aov k cov).ownBlock := fun b hb e => by have := (Own.lt hO2 b e.symm).1; omega
               have HD := Lib.hid hD; have HO2 := Lib.hid hO2; have Hts := Lib.hid hts; have HgB2 := Lib.hid gB; have Hne := Lib.hid hne
               clear hcB hfB hovr hmk hD hO2 hts gB hmv hje hgM hne
               go_wp2_with (at_builtin; go_must (refine wpList_appX _ Try.infoBlt rfl rfl Try.underlying62 ⟨rfl, by omega, by omega⟩ famBlt w3.heap.size HO2.out rfl (g := wr.heap.size) (cs := [.int .u8 q, .slice am j cm]) (y := ⟨q, l[k + 2]⟩) (box_new _ _) rfl HD.out rfl (by rw [Hnl.out]; omega) (by simp; omega) ?_); go_must (intro a1 n1 c1 w1 hg hO; have gB1 := (hg.block w.heap.size (by simp; omega) (Hne.out _ hlt3)).trans (box_old _ HgB2.out); obtain ⟨-, q1, q2⟩ := own_box (Below.refl _ w1) (size_of_box gB1) gB1; have q11 := q1 1; have q21 := q2 1; have Hg := Lib.hid hg; have HO := Lib.hid hO; clear hg hO q1 q2))
               refine ⟨⟨k + 1, .slice a1 n1 c1, by go_num, by omega, heap_setCell_at (o := 1) gB1 _, ?_, ?_, ?_, ?_⟩, by simp [intOf]; omega⟩
               · rw [Hts.out]
                 exact HO.out.setCell famBlt (p := ⟨w.heap.size, 1, none⟩) hlt3 _
               · intro b hb hS
                 have hS' : w.heap.size + 1 ≤ b := hS
                 refine (Below.heap_setCell _ _ _ _ (by simp; omega)).trans ((Hg.out.block b (by simp; omega) (Hne.out b hb)).trans ?_)
                 exact ((below_new wr _).block b (by omega)).trans ((hbi.block b (by omega)).trans (HSr.out b hb hS))
               · exact (((hbr.trans (hbi.mono (by omega))).alloc (by omega) _).grown Hg.out (by simp; omega) (fun b hb => by have := (Own.lt HO2.out b hb).1; omega)).setCell (p := ⟨w.heap.size, 1, none⟩) (Nat.le_refl _) _
               · rw [size_setCell']; have := Hg.out.size; simp at this; omega)
      · have hke : k = l.length - 2 := by omega
        have hki : ¬ k < l.length - 2 := by omega
        have hall : (l.drop 2).take k = l.drop 2 := List.take_of_length_le (by rw [List.length_drop]; omega)
        rw [hall] at hov
        have hll : ((l.drop 2).map (fun f => (⟨q, f⟩ : Blt))).length ≤ 140737488355328 := by simp; omega
        have hrd := OwnX.rsl famBlt (by omega) hov hll
        have hrd' : ∀ W, Same (Span w3.heap.size wr.heap.size) wr W → RBlts Any W (.slice aov k cov) ((l.drop 2).map (fun f => (⟨q, f⟩ : Blt))) := fun W hW => RSl.mono (fun _ _ _ h => dBlt.mono (fun _ _ => trivial) h) (fun _ _ => trivial) (RBlts.same hW hrd)
        have hbt : RBtcs Any (wr.alloc (.cells #[.string s0, .slice aov k cov] 64)) (.slice (some ⟨wr.heap.size, 0, none⟩) 1 1) [(⟨s0, (l.drop 2).map (fun f => (⟨q, f⟩ : Blt))⟩ : Btc)] :=
          RSl.mono (fun _ _ _ h => h) (fun _ _ => trivial) (RSl.built (lo := 0) (cs := [.string s0, .slice aov k cov]) (w' := wr.alloc (.cells #[.string s0, .slice aov k cov] 64)) (Nat.zero_le _) (box_new _ _) rfl (⟨.slice aov k cov, rfl, (show s0.size ≤ 140737488355328 by omega), hrd' _ (.of_below (below_new _ _))⟩ : dBtc Any (wr.alloc (.cells #[.string s0, .slice aov k cov] 64)) [.string s0, .slice aov k cov] (⟨s0, (l.drop 2).map (fun f => (⟨q, f⟩ : Blt))⟩ : Btc)))
        have Hrd := Lib.hid hrd'; have Hbt := Lib.hid hbt; have HgB := Lib.hid hgB; have Hov := Lib.hid hov
        clear hrd hrd' hbt hgB hov hall hnl hke
        by_cases hR : R = 0
        · subst hR
          go_wp2_with (go_at_call 39; refine (HChk.out _ _ Hbt.out).mono ?_; rintro e w5 ⟨rfl, hb5⟩; obtain ⟨gB5, q1, q2⟩ := own_box hb5 (by simp; omega) (box_old _ HgB.out); have hl5 := hb5.size)
          refine bodyPost_ret (v := .tuple #[.agg #[.string s0, .slice aov k cov], .int .i64 p, .int .u8 q, .int .i64 0]) (by simp [results, Try.results45, go_sem, q1]) rfl (HGood.out _ _ _ _ (by rw [HI.out]; simp) (Hrd.out _ ?_) ?_)
          · intro b hb hS
            have h1 := hS.1
            refine (Below.heap_setCell _ _ _ _ (by simp; omega)).trans ((Below.heap_setCell _ _ _ _ (by simp; omega)).trans ?_)
            exact (hb5.block b (by simp; omega)).trans ((below_new wr _).block b (by omega))
          · exact (((hbr.alloc (by omega) _).trans (hb5.mono (by simp; omega))).setCell (p := ⟨w.heap.size, 0, none⟩) (Nat.le_refl _) _).setCell (p := ⟨w.heap.size, 1, none⟩) (Nat.le_refl _) _
        · have hRb : (R != 0) = true := bne_iff_ne.2 hR
          go_wp2_with (go_at_call 39; refine (HChk.out _ _ Hbt.out).mono ?_; rintro e w5 ⟨rfl, hb5⟩; obtain ⟨gB5, q1, q2⟩ := own_box hb5 (by simp; omega) (box_old _ HgB.out); have hl5 := hb5.size)
          refine bodyPost_ret (v := .tuple #[.agg #[.string ⟨#[]⟩, .slice none 0 0], .int .i64 0, .int .u8 0, .int .i64 11]) (by simp [results, Try.results45, go_sem, q1]) rfl (HBad.out 11 _ (by rw [HI.out, if_neg hR]) (by omega) ?_)
          exact (((hbr.alloc (by omega) _).trans (hb5.mono (by simp; omega))).setCell (p := ⟨w.heap.size, 0, none⟩) (Nat.le_refl _) _).setCell (p := ⟨w.heap.size, 1, none⟩) (Nat.le_refl _) _
end Go.Proofs.Ytkjgddcjhikdgaa

/- Arguments that are bytes: read as rows. -/
namespace Go.Proofs.Ytkjgddcjhikdgaa
open Go Go.RowKit Go.Deep Go.ChangeShapes Go.WideShapes Go.ChangeAt

section
variable {H : Type} {enc : TypeId × Value → H} {w : World} {base : Nat} {spare : Nat → Bool} {held : Bool}
set_option maxRecDepth 100000 in
theorem arg_bytes {b0 : Nat} {v : Value} {d : DataW H} {ps : List MemPlace} (hv : Value.okWide Try.prog w .any b0 61 v) (h : DataW.Trod enc Try.prog w base spare held 61 v d ps)
    (hz : ∀ m ∈ d.weights Try.prog 61, m ≤ reachBytes) : ∃ xs, RBytes Any w v xs := by
  obtain ⟨a, n, c, rfl⟩ := okWide_slice Try.underlying61 hv
  obtain ⟨fuel, hf⟩ := h
  obtain ⟨u, xs, e, hr⟩ := rsl_of_trod (α := Int) (dec := dInt .u8) Try.underlying61 Try.cellsU8 (by omega) (by rw [Try.bytesU8]; omega) hf hz (fun _ _ _ hy _ => int_of_trod Try.underlying5 hy)
  simp [Value.cells] at e
  exact ⟨xs, e ▸ hr⟩
end
end Go.Proofs.Ytkjgddcjhikdgaa

/- What the law RecordReads answers. -/
namespace Go.Proofs.Ytkjgddcjhikdgaa
open Go Go.RowKit Go.Shelf

def ReadOpen (bt : Btc) (cd kd I : Int) (w : World) (e : Ending) (w' : World) : Prop :=
  ∃ a c, e = .returned (.tuple #[.agg #[.string bt.name, .slice a bt.blts.length c], .int .i64 cd, .int .u8 kd, .int .i64 I]) ∧ RBlts Any w' (.slice a bt.blts.length c) bt.blts ∧ Below w.heap.size w w'
theorem ReadOpen.of {xs : List Int} {bt : Btc} {cd kd I : Int} {w w' : World} {e : Ending} (hI : readI xs = I) (hV : readV xs = (bt, cd, kd)) (h : ReadGives xs w e w') : ReadOpen bt cd kd I w e w' := by
  obtain ⟨a, c, h1, h2, h3⟩ := h
  rw [hV, hI] at h1
  rw [hV] at h2
  exact ⟨a, c, h1, h2, h3⟩
theorem readName_le (xs : List Int) : (readV xs).1.name.size ≤ 16384 := by
  unfold readV
  split
  · simp only [btcOf, strOfNums_size]
    by_cases h : 0 < (splitV xs).length
    · rw [List.getD, List.getElem?_eq_getElem h]
      exact splitV_each xs _ (List.getElem_mem h)
    · rw [List.getD, List.getElem?_eq_none (by omega)]; simp
  · exact Nat.zero_le _
end Go.Proofs.Ytkjgddcjhikdgaa
