/- Texts of one claim, put together: Rng2, Blts, TallyP, Tally. -/
import Derived.Test.YtopdfijojjbjdaaGreatKGRead
import Derived.Test.YtopdfijojjbjdaaGreatKGFoot
import Derived.Test.YtopdfijojjbjdaaGreatKGProf
import Derived.Test.YtopdfijojjbjdaaGreatKGAdd
import Derived.RangeFuncNested
import Derived.RangeFuncBox
import Derived.RangeFuncBound
import Derived.RangeFuncCalls
import Derived.RangeFuncLeaves
import Derived.Shelf.Abstract
import Derived.WalkKit
import Derived.OwnWalkIn
import Derived.Shelf.RegionOpen
import Derived.TacticsInMore
import Derived.LoopNIn
import Derived.LoopIn
import Derived.Handy

/- A range over a function whose iterator makes memory between its rounds and behind the last: what the rounds leave must bear that. -/
namespace Go.Proofs.YtopdfijojjbjdaaGreat
open Go Go.RowKit Go.Shelf

/-- The iterator's word: between two rounds it adds memory alone (W0 to W1), and R says what it hands over. -/
def SeqNew2 {α : Type} (n : Nat) (P : Program) (g : Nat) (lb : Array Value) (encs : α → Array Value) (R : α → World → World → Prop) (n₀ N : Nat) (Kb : Nat → Prop) (S Sp : List α → Prop) (w : World) : Prop :=
  ∀ (l : Nat) (J Jx : List α → World → Prop) (W : World), Below w.heap.size w W → (∀ pre W W', J pre W → Below W.heap.size W W' → J pre W') →
    (∀ pre x W0 W1, J pre W0 → pre.length ≤ N → Below W0.heap.size W0 W1 → R x W0 W1 → YieldAt Fence.wide (n - 1) P l (encs x) W1 fun e W' =>
      (e = .returned (.bool true) ∧ J (pre ++ [x]) W' ∧ Below n₀ W1 W' ∧ ∀ b, Kb b → W'.heap[b]? = W1.heap[b]?) ∨ (e = .returned (.bool false) ∧ Jx (pre ++ [x]) W')) →
    J [] W →
    CallsIn Fence.wide n P g (#[.func (.yield l) #[] #[]] ++ lb) W fun e W' => (∃ v, e = .returned v) ∧ ((∃ xs, S xs ∧ J xs W') ∨ (∃ pre, Sp pre ∧ Jx pre W'))

variable {n : Nat} {P : Program}

theorem size_of_box' {w : World} {g : Nat} {o : Obj} (h : w.heap[g]? = some o) : g < w.heap.size := (Array.getElem?_eq_some_iff.1 h).1
theorem wpIn_rangeFunc_new3 {α : Type} {g : Operand} {ps : Array Tmp} {assign body : Code} {Q : Exit → Act → World → Prop} {a : Act} {w : World}
    {gf : Nat} {lb : Array Value} (hg : a.eval g = .func (.func gf) #[] lb) (eg : ∀ args w, (callFunc gf args).run P w = .ok (.enter gf args) w)
    {encs : α → Array Value} {R : α → World → World → Prop} {n₀ N : Nat} {Kb : Nat → Prop} {S Sp : List α → Prop} {w0 : World} (hseq : SeqNew2 (n - 1) P gf lb encs R n₀ N Kb S Sp w0)
    (hn₀ : n₀ ≤ w.heap.size) (hKb : ∀ b, Kb b → b < w.heap.size) (hb0 : Below w0.heap.size w0 w) (hps : ∀ x, (encs x).size = ps.size)
    (I Ix : List α → World → Prop) (hIb : ∀ s W W', I s W → Below W.heap.size W W' → I s W') (hIp : ∀ s W l o, w.heap.size ≤ l → l ≤ w.heap.size + 1 → I s W → I s (W.putObj l o)) (hIxp : ∀ s W l o, w.heap.size ≤ l → l ≤ w.heap.size + 1 → Ix s W → Ix s (W.putObj l o))
    (h0 : ∀ W, Below w.heap.size w W → W.heap.size = w.heap.size + 2 → I [] W) (a₁ : α → World → Act) (ob : α → Obj)
    (hassign : ∀ (l : Nat) (x : α) (W0 W1 : World) (K : Act → World → Prop), R x W0 W1 → K (a₁ x W1) (W1.alloc (ob x)) →
      assign.wpIn (Fence.wide.inRound l) (n - 1 - 1) P (Exit.then K (fun _ _ _ => False)) { tmps := (ps.zip (encs x)).foldl (fun t (p, v) => t.setIfInBounds p v) a.tmps, defers := [] } W1)
    (hbody : ∀ (l : Nat) (pre : List α) (x : α) (W0 W1 : World) (o : Obj), I pre W0 → pre.length ≤ N → w.heap.size + 2 ≤ W0.heap.size → Below W0.heap.size W0 W1 → R x W0 W1 →
      body.wpIn (Fence.wide.inRound l) (n - 1 - 1) P (newPost n₀ Kb I Ix (pre ++ [x]) ((W1.alloc (ob x)).putObj (w.heap.size + 1) o)) (a₁ x W1) ((W1.alloc (ob x)).putObj (w.heap.size + 1) o))
    (hdone : ∀ (xs : List α) (W : World), S xs → I xs W → W.heap[w.heap.size]? = some (.deferred (some [])) → Q .normal { a with defers := { target := .collected w.heap.size, args := #[] } :: a.defers } W)
    (hstop : ∀ (pre : List α) (W : World), Sp pre → Ix pre W → W.heap[w.heap.size]? = some (.deferred (some [])) → Code.ret.wpIn Fence.wide n P Q { a with defers := { target := .collected w.heap.size, args := #[] } :: a.defers } W) :
    (Code.rangeFunc g ps assign body).wpIn Fence.wide n P Q a w := by
  refine wpIn_rangeFunc fun fn hfn => ?_
  rw [show Fence.wide.round = none from rfl]
  -- the record of the loop, at each of its states
  let rec_ : LoopState → Option Code → Loop := fun st pe => { state := st, pending := pe, fn, tmps := a.tmps, params := ps, assign, body, defers := w.heap.size }
  let ws : World := w.alloc (.deferred (some []))
  let wl : World := ws.alloc (.loop (rec_ .ready none))
  let Rec : LoopState → Option Code → World → Prop := fun st pe W => W.heap[w.heap.size + 1]? = some (.loop (rec_ st pe)) ∧ W.heap[w.heap.size]? = some (.deferred (some []))
  have hsz : wl.heap.size = w.heap.size + 2 := by simp [wl, ws]
  have hstart : Rec .ready none wl := by
    refine ⟨?_, ?_⟩
    · have := World.alloc_heap_new ws (.loop (rec_ .ready none))
      rwa [show ws.heap.size = w.heap.size + 1 by simp [ws]] at this
    · exact (Below.heap_alloc ws _ _ (by simp [ws])).trans (World.alloc_heap_new w _)
  have hbl : Below w.heap.size w wl := ((Below.refl _ w).alloc (Nat.le_refl _) _).alloc (by simp) _
  have hturn : ∀ {st pe W} (st' pe'), Rec st pe W → Rec st' pe' (W.putObj (w.heap.size + 1) (.loop (rec_ st' pe'))) := fun st' pe' h =>
    ⟨World.putObj_heap_same (Array.getElem?_eq_some_iff.1 h.1).1, (World.putObj_heap_other (by omega)).trans h.2⟩
  have hput : ∀ (W : World) (o : Obj), w.heap.size + 1 < W.heap.size → Below n₀ W (W.putObj (w.heap.size + 1) o) := fun W o _ =>
    (Below.refl n₀ W).grown (grownBy_putObj' W _ o) (by omega) (fun k e => by cases e; omega)
  refine ⟨w.heap.size + 1, [{ target := .collected w.heap.size, args := #[] }], wl, { target := .fn (.func gf) lb, args := #[.func (.yield (w.heap.size + 1)) #[] #[]] }, wl, gf, #[.func (.yield (w.heap.size + 1)) #[] #[]] ++ lb, wl, run_enterLoop_outer _ _ _ _ _, by simp only [resolve, hg]; simp [go_sem], fun _ _ => trivial, by simp [invoke, go_sem, eg], fun hd => by simp [Fence.wide] at hd, ?_⟩
  refine (hseq (w.heap.size + 1) (fun s W => I s W ∧ w.heap.size + 2 ≤ W.heap.size ∧ Rec .ready none W) (fun s W => Ix s W ∧ Rec .done (some .ret) W) wl (hb0.trans (hbl.mono hb0.size)) (fun pre W W' ⟨h1, h2, h3, h4⟩ hb => ⟨hIb _ _ _ h1 hb, Nat.le_trans h2 hb.size, (hb.block _ (size_of_box' h3)).trans h3, (hb.block _ (size_of_box' h4)).trans h4⟩) ?_ ⟨h0 _ hbl hsz, by omega, hstart⟩).mono ?_
  · rintro pre x W0 W1 ⟨hi, hlt, hr⟩ hN hb hR
    have hr1 : Rec .ready none W1 := ⟨(hb.block _ (by omega)).trans hr.1, (hb.block _ (by omega)).trans hr.2⟩
    have hl1 := hb.size
    obtain ⟨W1a, hW1a⟩ : ∃ W1a, W1a = W1.alloc (ob x) := ⟨_, rfl⟩
    have hba : Below W1.heap.size W1 W1a := by rw [hW1a]; exact (Below.refl _ _).alloc (Nat.le_refl _) _
    have hra : Rec .ready none W1a := ⟨(hba.block _ (by omega)).trans hr1.1, (hba.block _ (by omega)).trans hr1.2⟩
    have hla := hba.size
    have hbody' := hbody (w.heap.size + 1) pre x W0 W1 (.loop (rec_ .busy none)) hi hN hlt hb hR
    have hass := hassign (w.heap.size + 1) x W0 W1
    rw [← hW1a] at hbody' hass
    refine ⟨fn, _, assign, body, run_yield hr1.1 (hps x), roundIn_of_wpIn hfn (hass _ hR ⟨_, run_beginRound hra.1 rfl, ?_⟩)⟩
    have hr2 := hturn .busy none hra
    refine wpIn_mono hbody' ?_
    intro e a3 W3 hp
    have hk : KeepsOthers (W1a.putObj (w.heap.size + 1) (.loop (rec_ .busy none))) W3 → Rec .busy none W3 := fun hk => ⟨hk.same _ _ hr2.1 rfl, hk.same _ _ hr2.2 rfl⟩
    cases e with
    | normal =>
      obtain ⟨hk3, hb3, hkb3, hi3⟩ := hp
      have hr3 := hk hk3
      refine ⟨_, _, run_endRound none hr3.1, .inl ⟨rfl, ⟨hIp _ _ _ _ (by omega) (by omega) hi3, ?_, hturn .ready none hr3⟩, ?_, fun b hb' => ?_⟩⟩
      · have := hk3.size; simp at this ⊢; omega
      · have := hk3.size; simp at this
        exact ((hba.mono (by omega)).trans ((hput _ _ (by omega)).trans hb3)).trans (hput _ _ (by omega))
      · have hne := hKb b hb'
        exact (World.putObj_heap_other (by omega)).trans ((hkb3 b hb').trans ((World.putObj_heap_other (by omega)).trans (hba.block _ (by omega))))
    | ret =>
      obtain ⟨hk3, hi3⟩ := hp
      have hr3 := hk hk3
      exact ⟨_, _, run_endRound (some .ret) hr3.1, .inr ⟨rfl, hIxp _ _ _ _ (by omega) (by omega) hi3, hturn .done (some .ret) hr3⟩⟩
    | exit _ => exact hp.elim
    | goto _ => exact hp.elim
    | panic _ => exact hp.elim
    | outgrown => exact hp.elim
  · rintro e W2 ⟨⟨v, rfl⟩, ⟨xs, hS, hi, _, hr⟩ | ⟨pre, hSp, hi, hr⟩⟩
    · exact ⟨none, _, run_endLoop hr.1 (by simp [rec_]), hdone xs _ hS (hIp _ _ _ _ (by omega) (by omega) hi) (hturn .exhausted none hr).2⟩
    · exact ⟨some .ret, _, run_endLoop hr.1 (by simp [rec_]), hstop pre _ hSp (hIxp _ _ _ _ (by omega) (by omega) hi) (hturn .exhausted (some .ret) hr).2⟩
end Go.Proofs.YtopdfijojjbjdaaGreat

/- The contract of record.ballots: an iterator over the ballots of all batches. -/
namespace Go.Proofs.YtopdfijojjbjdaaGreat
open Go Go.RowKit Go.Shelf
attribute [local go_sem] Oper.semAt_some

/-- What a round is handed: a ballot's value, the ballot. -/
structure Yb where
  a : Option Addr
  c : Nat
  x : Blt
def Yb.v (y : Yb) : Value := .agg #[.int .u8 y.x.kind, .slice y.a y.x.marks.length y.c]
def encsB (y : Yb) : Array Value := #[y.v]
def bl (l : List Btc) : List Blt := l.flatMap Btc.blts
def RB (S : Nat → Prop) (l : List Btc) (y : Yb) (_ W1 : World) : Prop := VBlt S W1 y.v y.x ∧ y.x ∈ bl l
theorem bl_at {l : List Btc} {k : Nat} (hk : k < l.length) (j : Nat) : ∃ rest, bl l = bl (l.take k) ++ l[k].blts.take j ++ rest := by
  refine ⟨l[k].blts.drop j ++ bl (l.drop (k + 1)), ?_⟩
  conv => lhs; rw [← List.take_append_drop k l, List.drop_eq_getElem_cons hk]
  simp only [bl, List.flatMap_append, List.flatMap_cons]
  rw [List.append_assoc, ← List.append_assoc (l[k].blts.take j), List.take_append_drop]
theorem bl_succ {l : List Btc} {k : Nat} (hk : k < l.length) : bl (l.take (k + 1)) = bl (l.take k) ++ l[k].blts := by
  rw [List.take_succ_eq_append_getElem hk, bl, List.flatMap_append]; simp [bl]
def SB (l : List Btc) (ys : List Yb) : Prop := ys.map (·.x) = bl l
def SpB (l : List Btc) (ys : List Yb) : Prop := ∃ rest, bl l = ys.map (·.x) ++ rest
set_option maxHeartbeats 2000000 in
set_option maxRecDepth 100000 in
theorem ballots1 (n : Nat) (hn : 2 ≤ n) (S : Nat → Prop) (n₀ bB N : Nat) (v : Value) (l : List Btc) (w : World) (h : RBtcs S w v l) (hS : ∀ b, S b → b < n₀) (hn₀ : n₀ ≤ w.heap.size) (hN : (bl l).length ≤ N)
    (hB : w.heap[bB]? = some (.cells #[v] 22 (0, 0))) : SeqNew2 n Tryz.prog 53 #[.pointer (some ⟨bB, 0, none⟩)] encsB (RB S l) n₀ N (fun _ => False) (SB l) (SpB l) w := by
  intro lp J Jx W hW hJb hY h0
  have hRW := h.same (.of_below hW)
  have hBW := (hW.block bB (size_of_box hB)).trans hB
  have hnW := hW.size
  have h1n : 1 ≤ n := by omega
  obtain ⟨a, cap, rfl, h1, h2⟩ := RSl.shape h
  obtain ⟨-, hc, hf⟩ := own_box (Below.refl _ W) (size_of_box hBW) hBW
  have hc0 : W.cell? ⟨bB, 0, none⟩ = some (.slice a l.length cap) := by simpa using hc 0
  have HY := Lib.hid hY
  have HS := Lib.hid hS
  have HJb := Lib.hid hJb
  have HN := Lib.hid hN
  clear hY hS h hB hc hf hJb hN
  refine callsIn_of_wp Tryz.func53 rfl trivial ?_ rfl
  simp only [Tryz.ntmps53, List.size_toArray, List.length_cons, List.length_nil, Nat.reduceAdd, Nat.reduceSub, Array.replicate_succ, Array.replicate_zero, List.push_toArray, List.append_toArray, List.nil_append, List.cons_append]
  gi_wp2
  gi_loopw [9] (fun i wr => ∃ (ys : List Yb) (k : Nat), i = .int .i64 k ∧ k ≤ l.length ∧ Hid (ys.map (·.x) = bl (l.take k)) ∧ Hid (J ys wr) ∧ Hid (RBtcs S wr (.slice a l.length cap) l) ∧ n₀ ≤ wr.heap.size) (fun i _ => l.length - (intOf i).toNat)
  case atStart => exact ⟨[], 0, rfl, Nat.zero_le _, Lib.hid (by simp [bl]), Lib.hid h0, Lib.hid hRW, by omega⟩
  case round =>
    obtain ⟨ys, k, rfl, hk, hys, hJ, hR, hnr⟩ := hrel
    clear hc0 hBW
    by_cases hlt : k < l.length
    · obtain ⟨b, off, c1, d1, rfl, hS1, hbw, hcc, hdd, hx⟩ := RSl.at2 hR.out k hlt
      obtain ⟨a2, cap2, rfl, rfl, hl2, hnm, hI⟩ := hx.open
      have hbn := below_new wr (.cells #[.string l[k].name, .slice a2 l[k].blts.length cap2] 55)
      have HI := Lib.hid (hI.same (.of_below hbn))
      have HR2 := Lib.hid (hR.out.same (.of_below hbn))
      have HJ2 := Lib.hid (HJb.out _ _ _ hJ.out hbn)
      have hzn : n₀ ≤ (wr.alloc (.cells #[.string l[k].name, .slice a2 l[k].blts.length cap2] 55)).heap.size := by simp; omega
      clear hx hI hR hJ
      gi_wp2
      obtain ⟨wo, rfl⟩ : ∃ wo, wo = wr := ⟨_, rfl⟩
      gi_loopw [16] (fun i wr => ∃ (ys : List Yb) (j : Nat), i = .int .i64 j ∧ j ≤ l[k].blts.length ∧ Hid (ys.map (·.x) = bl (l.take k) ++ l[k].blts.take j) ∧ Hid (J ys wr) ∧ Hid (RBtcs S wr (.slice (some ⟨b, off, none⟩) l.length cap) l) ∧ Hid (RBlts S wr (.slice a2 l[k].blts.length cap2) l[k].blts) ∧ n₀ ≤ wr.heap.size) (fun i _ => l[k].blts.length - (intOf i).toNat)
      case atStart => exact ⟨ys, 0, rfl, Nat.zero_le _, Lib.hid (by simpa using hys.out), HJ2, HR2, HI, hzn⟩
      case round =>
        clear HI HR2 HJ2 hzn hys ys
        obtain ⟨ys, j, rfl, hj, hys, hJ, hR, hI, hnr⟩ := hrel
        by_cases hjl : j < l[k].blts.length
        · obtain ⟨b2, off2, c3, d3, rfl, hS3, hbw3, hc3, hd3, hy⟩ := RSl.at2 hI.out j hjl
          obtain ⟨a3, cap3, rfl, rfl, hl3, -, -, -⟩ := hy.open
          have hbn := below_new wr (.cells #[.int .u8 l[k].blts[j].kind, .slice a3 l[k].blts[j].marks.length cap3] 41)
          have hyl : ys.length ≤ N := by
            obtain ⟨rest, hr⟩ := bl_at hlt j
            have e1 : ys.length = (bl (l.take k) ++ l[k].blts.take j).length := by rw [← hys.out]; simp
            have e2 := congrArg List.length hr
            rw [List.length_append] at e2
            have := HN.out
            omega
          have hYr := HY.out ys ⟨a3, cap3, l[k].blts[j]⟩ wr _ hJ.out hyl hbn ⟨⟨_, _, rfl, dBlt.stable S _ _ _ _ (.of_below hbn) hy⟩, List.mem_flatMap.2 ⟨l[k], List.getElem_mem hlt, List.getElem_mem hjl⟩⟩
          have hsn : (ys ++ [(⟨a3, cap3, l[k].blts[j]⟩ : Yb)]).map (·.x) = bl (l.take k) ++ l[k].blts.take (j + 1) := by
            rw [List.map_append, hys.out, List.take_succ_eq_append_getElem hjl]; simp
          have hSp : SpB l (ys ++ [⟨a3, cap3, l[k].blts[j]⟩]) := by
            obtain ⟨rest, hr⟩ := bl_at hlt (j + 1)
            exact ⟨rest, by rw [hsn]; exact hr⟩
          have Hsn := Lib.hid hsn; have HSp := Lib.hid hSp
          clear hsn hSp hy
          obtain ⟨fn, tmps, assign, body, hyy, hRd⟩ := hYr
          dsimp only [encsB, Yb.v] at hyy
          gi_wp2
          refine hRd.mono ?_
          rintro e W' (⟨rfl, hJ', hk', -⟩ | ⟨rfl, hJx'⟩)
          · gi_wp2
            have hsm : Same S wr W' := fun b hb hs => (hk'.block b (HS.out b hs)).trans (hbn.block b hb)
            exact ⟨⟨_, j + 1, by go_num, by omega, Lib.hid Hsn.out, Lib.hid hJ', Lib.hid (hR.out.same hsm), Lib.hid (hI.out.same hsm), by have := hk'.size; have := hbn.size; omega⟩, by simp [intOf]; omega⟩
          · gi_wp2
            refine bodyPost_ret (results_none rfl _ _ _) rfl ?_
            exact ⟨⟨_, rfl⟩, .inr ⟨_, HSp.out, hJx'⟩⟩
        · have hfin : ys.map (·.x) = bl (l.take (k + 1)) := by rw [bl_succ hlt, hys.out, List.take_of_length_le (l := l[k].blts) (i := j) (by omega)]
          have Hfin := Lib.hid hfin
          clear hfin
          gi_wp2
          exact ⟨⟨ys, k + 1, by go_num, by omega, Hfin, hJ, hR, hnr⟩, by simp [intOf]; omega⟩
    · have hfin : SB l ys := by rw [SB, hys.out, List.take_of_length_le (by omega)]
      have Hfin := Lib.hid hfin
      clear hfin
      gi_wp2
      go_end0
      exact ⟨⟨_, rfl⟩, .inl ⟨ys, Hfin.out, hJ.out⟩⟩
theorem recBallots (a : Option Addr) (n c : Nat) (w : World) : Calls Tryz.prog 28 #[.slice a n c] w fun e w' => e = .returned (.func (.func 53) #[] #[.pointer (some ⟨w.heap.size, 0, none⟩)]) ∧ w' = w.alloc (.cells #[.slice a n c] 22) := by
  go_enter Tryz.func28, Tryz.ntmps28
  go_wp2
  go_ret
  exact ⟨rfl, rfl⟩
end Go.Proofs.YtopdfijojjbjdaaGreat

/- The tally of batches, ballot by ballot: plain laws. -/
namespace Go.Proofs.YtopdfijojjbjdaaGreat
open Go Go.RowKit Go.Shelf

theorem rowsOf_bl (l : List Btc) : rowsOf l = (bl l).map Blt.marks := by
  simp only [rowsOf, bl, List.map_flatMap]
theorem bl_fit {l : List Btc} {c kind : Int} (h : recCheck l c kind = 0) : ∀ x ∈ bl l, x.kind = kind ∧ checkB x c = 0 := by
  intro x hx
  obtain ⟨b, hb, hx⟩ := List.mem_flatMap.1 hx
  exact mayB_fit ((recCheck_ok h).2.2.2.1 b hb) x hx
theorem bl_len {l : List Btc} {c kind : Int} (h : recCheck l c kind = 0) : (bl l).length ≤ 1024 := by
  obtain ⟨-, h2, h3, -, -⟩ := recCheck_ok h
  have := rowsOf_len h3
  rw [rowsOf_bl, List.length_map] at this
  omega
/-- The tally of these ballots. -/
def talB (l : List Blt) : List Row := tal (l.map Blt.marks)
theorem talB_snoc (l : List Blt) (x : Blt) : talB (l ++ [x]) = putR (talB l) x.marks 1 := by
  rw [talB, List.map_append, List.map_cons, List.map_nil, tal_snoc]; rfl
/-- The error behind these ballots. -/
def fullI (l : List Blt) : Int := if 64 < (talB l).length then 9 else 0
theorem talB_valid {c kind : Int} {l : List Blt} (h1 : 1 ≤ c ∧ c ≤ 10 ∧ 1 ≤ kind ∧ kind ≤ 3) (h2 : ∀ x ∈ l, x.kind = kind ∧ checkB x c = 0) (h3 : (talB l).length ≤ 64) (h4 : l.length ≤ 1000000) : Valid ⟨c, kind, talB l⟩ :=
  tal_valid h1 (fun m hm => by obtain ⟨x, hx, rfl⟩ := List.mem_map.1 hm; obtain ⟨e, k⟩ := h2 x hx; cases x; simp only at *; rw [← e]; exact k) h3 (by rw [List.length_map]; omega)
theorem add_step {c kind : Int} {l : List Blt} {x : Blt} (h1 : 1 ≤ c ∧ c ≤ 10 ∧ 1 ≤ kind ∧ kind ≤ 3) (h2 : ∀ y ∈ l ++ [x], y.kind = kind ∧ checkB y c = 0) (h3 : (talB l).length ≤ 64) (h4 : (l ++ [x]).length ≤ 1000000) :
    addI ⟨c, kind, talB l⟩ x 1 = fullI (l ++ [x]) ∧ addV ⟨c, kind, talB l⟩ x 1 = if fullI (l ++ [x]) = 0 then ⟨c, kind, talB (l ++ [x])⟩ else noP := by
  have hv := talB_valid (l := l) h1 (fun y hy => h2 y (List.mem_append_left _ hy)) h3 (by simp at h4; omega)
  have hx := h2 x (List.mem_append_right _ (List.mem_singleton_self _))
  have hm : mayP ⟨c, kind, talB l⟩ x 1 = 0 := by
    rw [mayP, if_neg (by rw [chkP_zero.2 hv]; simp), if_pos hx, if_neg (by omega)]
  have hI : addI ⟨c, kind, talB l⟩ x 1 = fullI (l ++ [x]) := by
    rw [addI, if_neg (by rw [hm]; simp), show min (1 : Int) 1000001 = 1 from by omega]
    show chkP ⟨c, kind, putR (talB l) x.marks 1⟩ = _
    rw [← talB_snoc]
    by_cases hf : 64 < (talB (l ++ [x])).length
    · rw [fullI, if_pos hf, chkP, if_pos hf]
    · rw [fullI, if_neg hf]
      exact chkP_zero.2 (talB_valid h1 h2 (by omega) h4)
  refine ⟨hI, ?_⟩
  rw [addV, hI, show min (1 : Int) 1000001 = 1 from by omega, addW, talB_snoc]
theorem talB_prefix {l : List Blt} {x : List Blt} : (talB l).length ≤ (talB (l ++ x)).length := by
  rw [talB, talB, List.map_append]; exact tal_prefix _ _
theorem tally_full {l : List Btc} {c kind : Int} {pre rest : List Blt} (h : recCheck l c kind = 0) (hp : bl l = pre ++ rest) (hf : fullI pre ≠ 0) : tallyI l c kind = 9 ∧ tallyV l c kind = noP := by
  have h1 : 64 < (talB pre).length := by
    unfold fullI at hf; split at hf
    · assumption
    · omega
  have h2 : 64 < (tal (rowsOf l)).length := by
    have := talB_prefix (l := pre) (x := rest)
    rw [rowsOf_bl, hp]; exact Nat.lt_of_lt_of_le h1 this
  have h3 : tallyI l c kind = 9 := by rw [tallyI, if_pos h, if_pos h2]
  exact ⟨h3, by rw [tallyV, h3, if_neg (by omega)]⟩
theorem tally_done {l : List Btc} {c kind : Int} (h : recCheck l c kind = 0) (hf : (talB (bl l)).length ≤ 64) : tallyI l c kind = 0 ∧ tallyV l c kind = ⟨c, kind, talB (bl l)⟩ := by
  have h3 : tallyI l c kind = 0 := by rw [tallyI, if_pos h, if_neg (by rw [rowsOf_bl]; show ¬ 64 < (talB (bl l)).length; omega)]
  exact ⟨h3, by rw [tallyV, if_pos h3, rowsOf_bl]; rfl⟩
theorem fullI_zero {l : List Blt} (h : fullI l = 0) : (talB l).length ≤ 64 := by
  unfold fullI at h; split at h <;> omega
theorem fullI_ways (l : List Blt) : fullI l = 0 ∨ fullI l = 9 := by
  unfold fullI; split <;> simp
theorem tally_bad {l : List Btc} {c kind : Int} (h : recCheck l c kind ≠ 0) : tallyI l c kind = recCheck l c kind ∧ tallyV l c kind = noP := by
  have h3 : tallyI l c kind = recCheck l c kind := by rw [tallyI, if_neg h]
  exact ⟨h3, by rw [tallyV, h3, if_neg h]⟩
end Go.Proofs.YtopdfijojjbjdaaGreat

/- The contract of record.Tally. -/
namespace Go.Proofs.YtopdfijojjbjdaaGreat
open Go Go.RowKit Go.Shelf
attribute [local go_sem] Oper.semAt_some

def TallyGives (l : List Btc) (c kind : Int) (w : World) (e : Ending) (w' : World) : Prop :=
  ∃ v, e = .returned (.tuple #[v, .int .i64 (tallyI l c kind)]) ∧ VProf (From w.heap.size) w' v (tallyV l c kind) ∧ Below w.heap.size w w'
theorem noP_val (S : Nat → Prop) (w : World) : VProf S w (.agg #[.int .i64 0, .int .u8 0, .slice none 0 0]) noP :=
  ⟨Option.none, 0, rfl, by show (0 : Int) ≤ 0; omega, by show (0 : Int) ≤ 255; omega, RSl.nil⟩
/-- The two boxes of the results. -/
structure Boxed (s : Nat) (k : Int) (p : Array Value) (W : World) : Prop where
  p : W.heap[s]? = some (.cells p 37 (0, 0))
  e : W.heap[s + 1]? = some (.cells #[.int .i64 k] 26 (0, 0))
theorem Boxed.below {s : Nat} {k : Int} {p : Array Value} {W W' : World} (h : Boxed s k p W) (hb : Below W.heap.size W W') : Boxed s k p W' :=
  ⟨(hb.block _ (size_of_box h.p)).trans h.p, (hb.block _ (size_of_box h.e)).trans h.e⟩
theorem Boxed.drew {s : Nat} {k : Int} {p : Array Value} {W : World} (h : Boxed s k p W) : Boxed s k p W.drew := ⟨h.p, h.e⟩
theorem Boxed.put {s : Nat} {k : Int} {p : Array Value} {W : World} (h : Boxed s k p W) {b : Nat} (hb : s + 1 < b) (o : Obj) : Boxed s k p (W.putObj b o) :=
  ⟨(World.putObj_heap_other (by omega)).trans h.p, (World.putObj_heap_other (by omega)).trans h.e⟩
theorem Boxed.setE {s : Nat} {k : Int} {p : Array Value} {W : World} (h : Boxed s k p W) (k' : Int) : Boxed s k' p (W.setCell ⟨s + 1, 0, none⟩ (.int .i64 k')) :=
  ⟨(Below.heap_setCell _ _ _ _ (by simp)).trans h.p, heap_setCell_at h.e _⟩
theorem Boxed.setP {s : Nat} {k : Int} {p : Array Value} {W : World} (h : Boxed s k p W) (i : Nat) (x : Value) : Boxed s k (p.setIfInBounds i x) (W.setCell ⟨s, i, none⟩ x) :=
  ⟨heap_setCell_at h.p _, (Below.heap_setCell _ _ _ _ (by simp)).trans h.e⟩
theorem Boxed.cellP {s : Nat} {k : Int} {p : Array Value} {W : World} (h : Boxed s k p W) (i : Nat) : W.cell? ⟨s, i, none⟩ = p[i]? := (own_box (Below.refl _ W) (size_of_box h.p) h.p).2.1 i
theorem Boxed.cellE {s : Nat} {k : Int} {p : Array Value} {W : World} (h : Boxed s k p W) : W.cell? ⟨s + 1, 0, none⟩ = some (.int .i64 k) := (own_box (Below.refl _ W) (size_of_box h.e) h.e).2.1 0
theorem Boxed.frP {s : Nat} {k : Int} {p : Array Value} {W : World} (h : Boxed s k p W) (i : Nat) : W.frozen? ⟨s, i, none⟩ = false := (own_box (Below.refl _ W) (size_of_box h.p) h.p).2.2 i
theorem Boxed.frE {s : Nat} {k : Int} {p : Array Value} {W : World} (h : Boxed s k p W) : W.frozen? ⟨s + 1, 0, none⟩ = false := (own_box (Below.refl _ W) (size_of_box h.e) h.e).2.2 0
theorem RRows.stay {S : Nat → Prop} {W : World} {v : Value} {rows : List Row} (h : RRows S W v rows) {b : Nat} (hb : ¬ S b) (i : Nat) (x : Value) : RRows S (W.setCell ⟨b, i, none⟩ x) v rows :=
  h.same (fun g hg hs => Below.heap_setCell _ _ _ _ (by rintro rfl; exact hb hs))
set_option maxHeartbeats 4000000 in
set_option maxRecDepth 100000 in
theorem tally_bad_walk (S : Nat → Prop) (v : Value) (l : List Btc) (c kind : Int) (w : World) (h : RBtcs S w v l) (hr : recCheck l c kind ≠ 0) :
    Calls Tryz.prog 9 #[v, .int .i64 c, .int .u8 kind] w (TallyGives l c kind w) := by
  have hG : ∀ w', Below w.heap.size w w' → TallyGives l c kind w (.returned (.tuple #[.agg #[.int .i64 0, .int .u8 0, .slice none 0 0], .int .i64 (recCheck l c kind)])) w' := fun w' hb => by
    obtain ⟨h1, h2⟩ := tally_bad hr
    exact ⟨_, by rw [h1], by rw [h2]; exact noP_val _ _, hb⟩
  have hC := fun W (hW : Below w.heap.size w W) => recordCheck S v l c kind W (h.same (.of_below hW))
  obtain ⟨a, cap, rfl, -, -⟩ := RSl.shape h
  obtain ⟨W0, hW0⟩ : ∃ W0, W0 = (w.alloc (.cells #[.int .i64 0, .int .u8 0, .slice none 0 0] 37)).alloc (.cells #[.int .i64 0] 26) := ⟨_, rfl⟩
  have hb0 : Below w.heap.size w W0 := by rw [hW0]; exact (below_new w _).alloc (by simp) _
  have hx0 : Boxed w.heap.size 0 #[.int .i64 0, .int .u8 0, .slice none 0 0] W0 := by
    rw [hW0]
    refine ⟨box_old _ (box_new _ _), ?_⟩
    have := box_new (w.alloc (.cells #[.int .i64 0, .int .u8 0, .slice none 0 0] 37)) (.cells #[.int .i64 0] 26)
    rwa [World.size_alloc] at this
  have hq : (recCheck l c kind != 0) = true := by simpa using hr
  have hC0 := hC W0 hb0
  generalize recCheck l c kind = I at *
  have hK : ∀ w1, Below W0.heap.size W0 w1 → Boxed w.heap.size I #[.int .i64 0, .int .u8 0, .slice none 0 0] (w1.setCell ⟨w.heap.size + 1, 0, none⟩ (.int .i64 I)) ∧ Below w.heap.size w (w1.setCell ⟨w.heap.size + 1, 0, none⟩ (.int .i64 I)) ∧ w1.frozen? ⟨w.heap.size + 1, 0, none⟩ = false ∧ w1.cell? ⟨w.heap.size + 1, 0, none⟩ = some (.int .i64 0) := fun w1 hb => by
    have hx := hx0.below hb
    exact ⟨hx.setE I, (hb0.trans (hb.mono hb0.size)).setCell (p := ⟨w.heap.size + 1, 0, none⟩) (by simp) _, hx.frE, hx.cellE⟩
  have HG := Lib.hid hG; have HC := Lib.hid hC0; have HK := Lib.hid hK
  clear hG hC hC0 hK hr h hb0 hx0
  subst hW0
  go_enter Tryz.func9, Tryz.ntmps9
  go_wp2_with (go_at_call 26; refine HC.out.mono ?_; rintro e w1 ⟨rfl, hb1⟩; obtain ⟨hx, hbx, hfz, hce⟩ := HK.out _ hb1; have hz := hbx.size; have c0 := hx.cellP 0; have c1 := hx.cellP 1; have c2 := hx.cellP 2; have ce := hx.cellE; have f0 := hx.frP 0; have f1 := hx.frP 1; have f2 := hx.frP 2; have fe := hx.frE; have hlt := size_of_box hx.e; have Hx := Lib.hid hx; have Hbx := Lib.hid hbx; clear hx hbx)
  go_region
  go_wp2
  refine bodyPost_ret (v := .tuple #[.agg #[.int .i64 0, .int .u8 0, .slice none 0 0], .int .i64 I]) ?_ rfl (HG.out _ (by have hbx := Hbx.out; go_grown))
  simp [results, Tryz.results9, go_sem, c0, c1, c2, ce]
theorem keep4 {A X : World} (h : KeepsOthers A X) (a b c d : Addr) (p q r s : Value) : KeepsOthers A ((((X.setCell a p).setCell b q).setCell c r).setCell d s) :=
  (((h.trans (KeepsOthers.setCell _ _ _)).trans (KeepsOthers.setCell _ _ _)).trans (KeepsOthers.setCell _ _ _)).trans (KeepsOthers.setCell _ _ _)
theorem below4 {B : Nat} {A X : World} (h : Below B A X) (a b c d : Addr) (p q r s : Value) (ha : B ≤ a.block) (hb : B ≤ b.block) (hc : B ≤ c.block) (hd : B ≤ d.block) : Below B A ((((X.setCell a p).setCell b q).setCell c r).setCell d s) :=
  (((h.setCell ha _).setCell hb _).setCell hc _).setCell hd _
theorem heap4 (X : World) (a b c d : Addr) (p q r s : Value) (k : Nat) (ha : a.block ≠ k) (hb : b.block ≠ k) (hc : c.block ≠ k) (hd : d.block ≠ k) : ((((X.setCell a p).setCell b q).setCell c r).setCell d s).heap[k]? = X.heap[k]? :=
  (Below.heap_setCell _ _ _ _ (Ne.symm hd)).trans ((Below.heap_setCell _ _ _ _ (Ne.symm hc)).trans ((Below.heap_setCell _ _ _ _ (Ne.symm hb)).trans (Below.heap_setCell _ _ _ _ (Ne.symm ha))))
def obB (y : Yb) : Obj := .cells #[.int .u8 y.x.kind, .slice y.a y.x.marks.length y.c] 41 (0, 0)
set_option maxHeartbeats 4000000 in
set_option maxRecDepth 100000 in
theorem tally_ok_walk (S : Nat → Prop) (v : Value) (l : List Btc) (c kind : Int) (w : World) (h : RBtcs S w v l) (hr : recCheck l c kind = 0) :
    Calls Tryz.prog 9 #[v, .int .i64 c, .int .u8 kind] w (TallyGives l c kind w) := by
  refine (callsIn_wide (n := 8)).1 ?_
  have hnew := (recCheck_ok hr).1
  have hk : 0 ≤ kind ∧ kind ≤ 255 := by omega
  have hlen := bl_len hr
  have hbf := bl_fit hr
  have hCut : RBtcs (Cut S w.heap.size) w v l := h.cut
  have hC : ∀ W, Below w.heap.size w W → Calls Tryz.prog 26 #[v, .int .i64 c, .int .u8 kind] W fun e w' => e = .returned (.int .i64 0) ∧ Below W.heap.size W w' := fun W hW => by
    have := recordCheck S v l c kind W (h.same (.of_below hW))
    rwa [hr] at this
  have hN := fun W => profNew_ok c kind W (newOk_iff.2 hnew)
  obtain ⟨a, cap, rfl, -, -⟩ := RSl.shape h
  have hGood : ∀ w' (a' : Option Addr) (n' c' : Nat), (talB (bl l)).length ≤ 64 → n' = (talB (bl l)).length → RRows (From w.heap.size) w' (.slice a' n' c') (talB (bl l)) → Below w.heap.size w w' → TallyGives l c kind w (.returned (.tuple #[.agg #[.int .i64 c, .int .u8 kind, .slice a' n' c'], .int .i64 0])) w' := fun w' a' n' c' h64 hn hR hb => by
    subst hn
    obtain ⟨h1, h2⟩ := tally_done hr h64
    exact ⟨_, by rw [h1], by rw [h2]; exact ⟨a', c', rfl, hk.1, hk.2, hR⟩, hb⟩
  have hBad : ∀ w' (pre rest : List Blt), bl l = pre ++ rest → fullI pre ≠ 0 → Below w.heap.size w w' → TallyGives l c kind w (.returned (.tuple #[.agg #[.int .i64 0, .int .u8 0, .slice none 0 0], .int .i64 9])) w' := fun w' pre rest hp hf hb => by
    obtain ⟨h1, h2⟩ := tally_full hr hp hf
    exact ⟨_, by rw [h1], by rw [h2]; exact noP_val _ _, hb⟩
  obtain ⟨W0, hW0⟩ : ∃ W0, W0 = (w.alloc (.cells #[.int .i64 0, .int .u8 0, .slice none 0 0] 37)).alloc (.cells #[.int .i64 0] 26) := ⟨_, rfl⟩
  have hb0 : Below w.heap.size w W0 := by rw [hW0]; exact (below_new w _).alloc (by simp) _
  have hx0 : Boxed w.heap.size 0 #[.int .i64 0, .int .u8 0, .slice none 0 0] W0 := by
    rw [hW0]
    refine ⟨box_old _ (box_new _ _), ?_⟩
    have := box_new (w.alloc (.cells #[.int .i64 0, .int .u8 0, .slice none 0 0] 37)) (.cells #[.int .i64 0] 26)
    rwa [World.size_alloc] at this
  have hC0 := hC W0 hb0
  have hK1 : ∀ w1, Below W0.heap.size W0 w1 → Boxed w.heap.size 0 #[.int .i64 0, .int .u8 0, .slice none 0 0] (w1.setCell ⟨w.heap.size + 1, 0, none⟩ (.int .i64 0)) ∧ Below w.heap.size w (w1.setCell ⟨w.heap.size + 1, 0, none⟩ (.int .i64 0)) ∧ Boxed w.heap.size 0 #[.int .i64 0, .int .u8 0, .slice none 0 0] w1 := fun w1 hb => by
    have hx := hx0.below hb
    exact ⟨hx.setE 0, (hb0.trans (hb.mono hb0.size)).setCell (p := ⟨w.heap.size + 1, 0, none⟩) (by simp) _, hx⟩
  have HC := Lib.hid hC0; have HN := Lib.hid hN; have HGood := Lib.hid hGood; have HBad := Lib.hid hBad; have HK1 := Lib.hid hK1; have HCut := Lib.hid hCut; have Hhnew := Lib.hid hnew; have Hlen := Lib.hid hlen; have Hbf := Lib.hid hbf; have Hhk := Lib.hid hk
  clear hC hC0 hN hGood hBad hK1 hCut hnew hlen hbf hk hb0 hx0 hr h
  subst hW0
  refine callsIn_of_wp_marks Tryz.func9 rfl trivial ?_ rfl
  simp only [Tryz.ntmps9, List.size_toArray, List.length_cons, List.length_nil, Nat.reduceAdd, Nat.reduceSub, Array.replicate_succ, Array.replicate_zero, List.push_toArray, List.append_toArray, List.nil_append, List.cons_append]
  have h18 : 1 ≤ 8 := by omega
  have hmx : Tryz.prog.follows .mixedOrders = true := by kernel_rfl
  gi_wp2_with (first
    | (refine ⟨trivial, ?_⟩; gi_at_call 26; refine (callsIn_wide.2 HC.out).mono ?_; rintro e w1 ⟨rfl, hb1⟩; obtain ⟨hx, hbx, hxx⟩ := HK1.out _ hb1; have hz1 := hbx.size; have ce1 := hxx.cellE; have fe1 := hxx.frE; have hlt1 := size_of_box hxx.e; have Hx1 := Lib.hid hx; have Hbx1 := Lib.hid hbx; clear hx hxx hbx)
    | (refine ⟨trivial, ?_⟩; gi_at_call 27; refine (callsIn_wide.2 (HN.out _)).mono ?_; rintro e w2 ⟨rfl, hb2⟩; have hx := Hx1.out.below hb2; have hbx := Hbx1.out.trans (hb2.mono Hbx1.out.size); have hlt2 := size_of_box hx.e; have hz2 := hbx.size; have Hx2 := Lib.hid hx; have Hbx2 := Lib.hid hbx; have f20 := hx.frP 0; have f21 := hx.frP 1; have f22 := hx.frP 2; have fe2 := hx.frE; have c20 := hx.cellP 0; have c21 := hx.cellP 1; have c22 := hx.cellP 2; have ce2 := hx.cellE; simp only [List.getElem?_toArray, List.getElem?_cons_zero, List.getElem?_cons_succ] at c20 c21 c22; clear hx hbx)
    | (refine ⟨trivial, ?_⟩; gi_at_call 28; refine (callsIn_wide.2 (recBallots _ _ _ _)).mono ?_; rintro e w3 ⟨rfl, rfl⟩))
  obtain ⟨wr, hwr⟩ : ∃ x, x = (((((w2.setCell ⟨w.heap.size, 0, none⟩ (.int .i64 c)).setCell ⟨w.heap.size, 1, none⟩ (.int .u8 kind)).setCell ⟨w.heap.size, 2, none⟩ (.slice none 0 0)).setCell ⟨w.heap.size + 1, 0, none⟩ (.int .i64 0)).alloc (.cells #[.slice a l.length cap] 22)) := ⟨_, rfl⟩
  have hxr : Boxed w.heap.size 0 #[.int .i64 c, .int .u8 kind, .slice none 0 0] wr := by rw [hwr]; exact ((((Hx2.out.setP 0 _).setP 1 _).setP 2 _).setE 0).below (below_new _ _)
  have hbr : Below w.heap.size w wr := by rw [hwr]; have := Hbx2.out; go_grown
  have hsr : wr.heap.size = w2.heap.size + 1 := by rw [hwr]; simp
  have hgr : wr.heap[w2.heap.size]? = some (.cells #[.slice a l.length cap] 22 (0, 0)) := by
    rw [hwr]
    have := box_new ((((w2.setCell ⟨w.heap.size, 0, none⟩ (.int .i64 c)).setCell ⟨w.heap.size, 1, none⟩ (.int .u8 kind)).setCell ⟨w.heap.size, 2, none⟩ (.slice none 0 0)).setCell ⟨w.heap.size + 1, 0, none⟩ (.int .i64 0)) (.cells #[.slice a l.length cap] 22)
    rwa [size_setCell', size_setCell', size_setCell', size_setCell'] at this
  have hl2 : w.heap.size + 1 < wr.heap.size := by omega
  rw [← hwr]
  clear hwr ce1 fe1 hlt1 hz1 f20 f21 f22 fe2 c20 c21 c22 ce2
  have HB1 := ballots1 7 (by omega) (Cut S w.heap.size) w.heap.size w2.heap.size 1024 _ l wr (HCut.out.same (fun b _ hs => hbr.block b hs.2)) (fun b hb => hb.2) (by omega) Hlen.out hgr
  refine wpIn_rangeFunc_new3 (n := 8) (gf := 53) (lb := #[.pointer (some ⟨w2.heap.size, 0, none⟩)]) rfl (enters_of Tryz.func53 (by kernel_rfl) rfl) HB1 (by omega) (fun b hb => hb.elim) (Below.refl _ _) (fun _ => rfl)
    (fun pre W => ∃ (av : Option Addr) (n ca : Nat), Boxed w.heap.size 0 #[.int .i64 c, .int .u8 kind, .slice av n ca] W ∧ n = (talB (pre.map (·.x))).length ∧ RRows (From (wr.heap.size + 2)) W (.slice av n ca) (talB (pre.map (·.x))) ∧ n ≤ 64 ∧ Hid (∀ y ∈ pre, y.x.kind = kind ∧ checkB y.x c = 0) ∧ Below w.heap.size w W ∧ wr.heap.size + 2 ≤ W.heap.size)
    (fun pre W => Boxed w.heap.size 9 #[.int .i64 0, .int .u8 0, .slice none 0 0] W ∧ Hid (fullI (pre.map (·.x)) ≠ 0) ∧ Below w.heap.size w W)
    ?ib ?ip ?ixp ?h0 ?a1 obB ?assign ?body ?done ?stop
  case assign =>
    intro lp x W0 W K hR hK
    simp only [encsB, Yb.v]
    gi_wp2
    exact hK
  case ib =>
    rintro s W W' ⟨av, n, ca, hx, hn, hrr, h64, hf, hb, hz⟩ hb'
    exact ⟨av, n, ca, hx.below hb', hn, hrr.same (.of_below hb'), h64, hf, hb.trans (hb'.mono (by omega)), Nat.le_trans hz hb'.size⟩
  case ip =>
    rintro s W b o h3 h4 ⟨av, n, ca, hx, hn, hrr, h64, hf, hb, hz⟩
    exact ⟨av, n, ca, hx.put (by omega) o, hn, hrr.same (fun g hg hs => World.putObj_heap_other (by have : wr.heap.size + 2 ≤ g := hs; omega)), h64, hf, hb.grown (grownBy_putObj' W b o) hb.size (fun k e => by cases e; omega), by simpa using hz⟩
  case ixp =>
    rintro s W b o h3 h4 ⟨hx, hf, hb⟩
    exact ⟨hx.put (by omega) o, hf, hb.grown (grownBy_putObj' W b o) hb.size (fun k e => by cases e; omega)⟩
  case h0 =>
    intro W hb hz
    exact ⟨none, 0, 0, hxr.below hb, rfl, RSl.nil, by omega, Lib.hid (fun _ h => by cases h), hbr.trans (hb.mono (by omega)), by omega⟩
  case body =>
    rintro lp pre ⟨ya, yc, yx⟩ W0 W1 o ⟨av, n, ca, hx, hn, hrr, h64, hf, hb, hz⟩ hN hlt hbW ⟨hv, hmem⟩
    simp only [Yb.v] at hv
    have hs1 := hbW.size
    obtain ⟨W2, hW2⟩ : ∃ W2, W2 = (W1.alloc (obB ⟨ya, yc, yx⟩)).putObj (wr.heap.size + 1) o := ⟨_, rfl⟩
    rw [← hW2]
    have hn1 := below_new W1 (obB ⟨ya, yc, yx⟩)
    have hs2 : W2.heap.size = W1.heap.size + 1 := by rw [hW2]; simp
    have hx2 : Boxed w.heap.size 0 #[.int .i64 c, .int .u8 kind, .slice av n ca] W2 := by rw [hW2]; exact ((hx.below hbW).below hn1).put (by omega) o
    have hb2 : Below w.heap.size w W2 := by rw [hW2]; exact ((hb.trans (hbW.mono (by omega))).trans (hn1.mono (by omega))).grown (grownBy_putObj' _ _ _) (by have := hb.size; have := hn1.size; omega) (fun k e => by cases e; omega)
    have hr2 : RRows (From (wr.heap.size + 2)) W2 (.slice av n ca) (talB (pre.map (·.x))) := by
      rw [hW2]
      exact ((hrr.same (.of_below hbW)).same (.of_below hn1)).same (fun g hg hs => World.putObj_heap_other (by have : wr.heap.size + 2 ≤ g := hs; omega))
    have hv2 : VBlt Any W2 (.agg #[.int .u8 yx.kind, .slice ya yx.marks.length yc]) yx := by
      rw [hW2]
      obtain ⟨p, q, e, hd⟩ := hv
      exact ⟨p, q, e, dBlt.mono (fun _ _ => trivial) (dBlt.stable (Cut S w.heap.size) _ _ _ _ (fun b hb hs => (World.putObj_heap_other (by have := hs.2; omega)).trans (hn1.block b hb)) hd)⟩
    have hgx : W2.heap[W1.heap.size]? = some (.cells #[.int .u8 yx.kind, .slice ya yx.marks.length yc] 41 (0, 0)) := by
      rw [hW2]; exact (World.putObj_heap_other (by omega)).trans (box_new W1 _)
    obtain ⟨-, hcb, -⟩ := own_box (Below.refl _ W2) (size_of_box hgx) hgx
    have cb0 : W2.cell? ⟨W1.heap.size, 0, none⟩ = some (.int .u8 yx.kind) := hcb 0
    have cb1 : W2.cell? ⟨W1.heap.size, 1, none⟩ = some (.slice ya yx.marks.length yc) := hcb 1
    have c0 : W2.cell? ⟨w.heap.size, 0, none⟩ = some (.int .i64 c) := hx2.cellP 0
    have c1 : W2.cell? ⟨w.heap.size, 1, none⟩ = some (.int .u8 kind) := hx2.cellP 1
    have c2 : W2.cell? ⟨w.heap.size, 2, none⟩ = some (.slice av n ca) := hx2.cellP 2
    have hff : ∀ y ∈ pre.map (·.x) ++ [yx], y.kind = kind ∧ checkB y c = 0 := fun y hy => by
      rcases List.mem_append.1 hy with hy | hy
      · obtain ⟨z, hz', rfl⟩ := List.mem_map.1 hy
        exact hf.out z hz'
      · rw [List.mem_singleton.1 hy]; exact Hbf.out yx hmem
    have hfz : ∀ y ∈ pre ++ [(⟨ya, yc, yx⟩ : Yb)], y.x.kind = kind ∧ checkB y.x c = 0 := fun y hy => by
      rcases List.mem_append.1 hy with hy | hy
      · exact hf.out y hy
      · rw [List.mem_singleton.1 hy]; exact Hbf.out yx hmem
    have hmap : (pre ++ [(⟨ya, yc, yx⟩ : Yb)]).map (·.x) = pre.map (·.x) ++ [yx] := by simp
    obtain ⟨hI, hV⟩ := add_step (l := pre.map (·.x)) (x := yx) Hhnew.out hff (by omega) (by simp; omega)
    have hA := profAdd (From (wr.heap.size + 2)) Any _ _ ⟨c, kind, talB (pre.map (·.x))⟩ yx 1 W2 ⟨av, ca, rfl, Hhk.out.1, Hhk.out.2, by rw [← hn]; exact hr2⟩ hv2
    rw [hI, hV] at hA
    simp only [← hn] at hA
    have h16 : 1 ≤ 8 - 1 - 1 := by omega
    have Hmap := Lib.hid hmap
    rcases fullI_ways (pre.map (·.x) ++ [yx]) with h9 | h9
    · rw [h9, if_pos rfl] at hA
      have hA2 : Calls Tryz.prog 12 #[.agg #[.int .i64 c, .int .u8 kind, .slice av n ca], .agg #[.int .u8 yx.kind, .slice ya yx.marks.length yc], .int .i64 1] W2 fun e w' => ∃ a' n' c', e = .returned (.tuple #[.agg #[.int .i64 c, .int .u8 kind, .slice a' n' c'], .int .i64 0]) ∧ n' = (talB (pre.map (·.x) ++ [yx])).length ∧ RRows (From (wr.heap.size + 2)) w' (.slice a' n' c') (talB (pre.map (·.x) ++ [yx])) ∧ Below W2.heap.size W2 w' := by
        refine hA.mono ?_
        rintro e w' ⟨v', rfl, ⟨a', c', rfl, -, -, hr'⟩, hb'⟩
        refine ⟨a', _, c', rfl, rfl, RRows.mono (fun b hb => ?_) hr', hb'⟩
        rcases hb with hb | hb
        · exact hb.1
        · show wr.heap.size + 2 ≤ b; omega
      have h64' := fullI_zero h9
      have HA := Lib.hid hA2; have Hx2' := Lib.hid hx2; have Hb2 := Lib.hid hb2; have Hfz := Lib.hid hfz; have HW2 := Lib.hid hW2; have Hz := Lib.hid hz; have Hs2 := Lib.hid hs2
      have hlt2' : W1.heap.size < W2.heap.size := by omega
      clear hA hA2 hx hx2 hb hb2 hfz hff hf hrr hr2 hv hv2 hgx hcb hI hV hmap hN hbW hn1 hW2 h9 hn h64 hmem Hlen Hbf HGood HBad HB1 hxr hbr hsr hgr hs2 hz
      gi_wp2_with (refine ⟨trivial, ?_⟩; gi_at_call 12; refine (CallsIn.inRound lp (callsIn_wide.2 HA.out)).mono ?_; rintro e w4 ⟨a4, n4, c4, rfl, hn4, hr4, hb4⟩; have hx4 := Hx2'.out.below hb4; have c40 := hx4.cellP 0; have c41 := hx4.cellP 1; have c42 := hx4.cellP 2; have ce4 := hx4.cellE; have f40 := hx4.frP 0; have f41 := hx4.frP 1; have f42 := hx4.frP 2; have fe4 := hx4.frE; simp only [List.getElem?_toArray, List.getElem?_cons_zero, List.getElem?_cons_succ] at c40 c41 c42; have hlt4 := size_of_box hx4.e; have Hx4 := Lib.hid hx4; have Hb4 := Lib.hid hb4; have Hr4 := Lib.hid hr4; have Hn4 := Lib.hid hn4; clear hx4 hb4 hr4 hn4)
      have hko : KeepsOthers W2 w4 := KeepsOthers.of_grownBy (grownBy_of_below Hb4.out) (fun j o e _ => by cases e)
      have hb4 := Hb4.out
      have hz4 := hb4.size
      have hN4 : ¬ From (wr.heap.size + 2) w.heap.size := fun h => by have : wr.heap.size + 2 ≤ w.heap.size := h; omega
      have hN5 : ¬ From (wr.heap.size + 2) (w.heap.size + 1) := fun h => by have : wr.heap.size + 2 ≤ w.heap.size + 1 := h; omega
      have hbn : Below w.heap.size W2 w4 := hb4.mono (by omega)
      refine ⟨(((hko.trans (KeepsOthers.setCell _ _ _)).trans (KeepsOthers.setCell _ _ _)).trans (KeepsOthers.setCell _ _ _)).trans (KeepsOthers.setCell _ _ _), ?_, fun b hb => hb.elim, a4, n4, c4, ?_, by rw [Hmap.out]; exact Hn4.out, ?_, by rw [Hn4.out]; exact h64', Lib.hid Hfz.out, ?_, ?_⟩
      · go_grown
      · exact (((Hx4.out.setP 0 _).setP 1 _).setP 2 _).setE 0
      · rw [Hmap.out]; exact ((((Hr4.out.stay hN4 0 _).stay hN4 1 _).stay hN4 2 _).stay hN5 0 _)
      · have hb5 := Hb2.out.trans (hb4.mono Hb2.out.size); go_grown
      · have := Hz.out; have := Hs2.out; simp only [size_setCell']; omega
    · rw [h9, if_neg (by omega)] at hA
      have hA2 : Calls Tryz.prog 12 #[.agg #[.int .i64 c, .int .u8 kind, .slice av n ca], .agg #[.int .u8 yx.kind, .slice ya yx.marks.length yc], .int .i64 1] W2 fun e w' => ∃ a' c', e = .returned (.tuple #[.agg #[.int .i64 0, .int .u8 0, .slice a' 0 c'], .int .i64 9]) ∧ Below W2.heap.size W2 w' := by
        refine hA.mono ?_
        rintro e w' ⟨v', rfl, ⟨a', c', rfl, -, -, hr'⟩, hb'⟩
        exact ⟨a', c', rfl, hb'⟩
      have hfull : fullI (pre.map (·.x) ++ [yx]) ≠ 0 := by rw [h9]; omega
      have HA := Lib.hid hA2; have Hx2' := Lib.hid hx2; have Hb2 := Lib.hid hb2; have Hfull := Lib.hid hfull; have HW2 := Lib.hid hW2; have Hz := Lib.hid hz; have Hs2 := Lib.hid hs2
      have hlt2' : W1.heap.size < W2.heap.size := by omega
      clear hA hA2 hx hx2 hb hb2 hfz hff hf hrr hr2 hv hv2 hgx hcb hI hV hmap hN hbW hn1 hW2 h9 hn h64 hmem Hlen Hbf HGood HBad HB1 hxr hbr hsr hgr hs2 hz hfull
      gi_wp2_with (refine ⟨trivial, ?_⟩; gi_at_call 12; refine (CallsIn.inRound lp (callsIn_wide.2 HA.out)).mono ?_; rintro e w4 ⟨a4, c4, rfl, hb4⟩; have hx4 := Hx2'.out.below hb4; have c40 := hx4.cellP 0; have c41 := hx4.cellP 1; have c42 := hx4.cellP 2; have ce4 := hx4.cellE; have f40 := hx4.frP 0; have f41 := hx4.frP 1; have f42 := hx4.frP 2; have fe4 := hx4.frE; simp only [List.getElem?_toArray, List.getElem?_cons_zero, List.getElem?_cons_succ] at c40 c41 c42; have hlt4 := size_of_box hx4.e; have Hx4 := Lib.hid hx4; have Hb4 := Lib.hid hb4; clear hx4 hb4)
      have hko : KeepsOthers W2 w4 := KeepsOthers.of_grownBy (grownBy_of_below Hb4.out) (fun j o e _ => by cases e)
      have Hko := Lib.hid hko
      have hb5 := Hb2.out.trans (Hb4.out.mono Hb2.out.size)
      have Hb5 := Lib.hid hb5
      clear hko hb5
      gi_region_elder_o
      all_goals gi_wp2
      all_goals exact ⟨(keep4 (keep4 Hko.out _ _ _ _ _ _ _ _) _ _ _ _ _ _ _ _).trans (KeepsOthers.drew _), ((((((((Hx4.out.setP 0 _).setP 1 _).setP 2 _).setE 9).setP 0 _).setP 1 _).setP 2 _).setE 9).drew, Lib.hid (by rw [Hmap.out]; exact Hfull.out), (below4 (below4 Hb5.out _ _ _ _ _ _ _ _ (Nat.le_refl _) (Nat.le_refl _) (Nat.le_refl _) (Nat.le_succ _)) _ _ _ _ _ _ _ _ (Nat.le_refl _) (Nat.le_refl _) (Nat.le_refl _) (Nat.le_succ _)).drew⟩
  case done =>
    rintro ys W hSy ⟨av, n, ca, hx, hn, hrr, h64, hf, hb, hz⟩ hK
    have hys : ys.map (·.x) = bl l := hSy
    rw [hys] at hn hrr
    have hG := fun w' hR hb' => HGood.out w' av n ca (by omega) hn hR hb'
    have c0 : W.cell? ⟨w.heap.size, 0, none⟩ = some (.int .i64 c) := hx.cellP 0
    have c1 : W.cell? ⟨w.heap.size, 1, none⟩ = some (.int .u8 kind) := hx.cellP 1
    have c2 : W.cell? ⟨w.heap.size, 2, none⟩ = some (.slice av n ca) := hx.cellP 2
    have ce := hx.cellE
    have f0 := hx.frP 0
    have f1 := hx.frP 1
    have f2 := hx.frP 2
    have fe := hx.frE
    have hlt := size_of_box hx.e
    obtain ⟨W5, hW5⟩ : ∃ x, x = ((((W.setCell ⟨w.heap.size, 0, none⟩ (.int .i64 c)).setCell ⟨w.heap.size, 1, none⟩ (.int .u8 kind)).setCell ⟨w.heap.size, 2, none⟩ (.slice av n ca)).setCell ⟨w.heap.size + 1, 0, none⟩ (.int .i64 0)).drew := ⟨_, rfl⟩
    have hx5 : Boxed w.heap.size 0 #[.int .i64 c, .int .u8 kind, .slice av n ca] (W5.putObj (wr.heap.size) (.deferred none)) := by rw [hW5]; exact ((((hx.setP 0 _).setP 1 _).setP 2 _).setE 0).drew.put (by omega) _
    have hN4 : ¬ From (wr.heap.size + 2) w.heap.size := fun h => by have : wr.heap.size + 2 ≤ w.heap.size := h; omega
    have hN5 : ¬ From (wr.heap.size + 2) (w.heap.size + 1) := fun h => by have : wr.heap.size + 2 ≤ w.heap.size + 1 := h; omega
    have hr5 : RRows (From w.heap.size) (W5.putObj (wr.heap.size) (.deferred none)) (.slice av n ca) (talB (bl l)) := by
      have k1 := (((hrr.stay hN4 0 (.int .i64 c)).stay hN4 1 (.int .u8 kind)).stay hN4 2 (.slice av n ca)).stay hN5 0 (.int .i64 0)
      have k2 : RRows (From (wr.heap.size + 2)) W5 (.slice av n ca) (talB (bl l)) := by rw [hW5]; exact k1.same (fun _ _ _ => rfl)
      exact RRows.mono (fun b hb => by have : wr.heap.size + 2 ≤ b := hb; show w.heap.size ≤ b; omega) (k2.same (fun g _ hs => World.putObj_heap_other (by have : wr.heap.size + 2 ≤ g := hs; omega)))
    have hb5 : Below w.heap.size w (W5.putObj (wr.heap.size) (.deferred none)) := by
      have : Below w.heap.size w W5 := by rw [hW5]; exact (below4 hb _ _ _ _ _ _ _ _ (Nat.le_refl _) (Nat.le_refl _) (Nat.le_refl _) (Nat.le_succ _)).drew
      exact this.grown (grownBy_putObj' _ _ _) this.size (fun k e => by cases e; omega)
    have hK5 : W5.heap[wr.heap.size]? = some (.deferred (some [])) := by
      rw [hW5]; exact (heap4 W _ _ _ _ _ _ _ _ _ (by simp; omega) (by simp; omega) (by simp; omega) (by simp; omega)).trans hK
    have hfin := hG _ hr5 hb5
    have f0' := hx5.cellP 0
    have f1' := hx5.cellP 1
    have f2' := hx5.cellP 2
    have fe' := hx5.cellE
    simp only [List.getElem?_toArray, List.getElem?_cons_zero, List.getElem?_cons_succ] at f0' f1' f2'
    have Hfin := Lib.hid hfin; have HK5 := Lib.hid hK5; have Hf := Lib.hid (And.intro f0' (And.intro f1' (And.intro f2' fe'))); have HW5 := Lib.hid hW5
    clear hfin hK5 f0' f1' f2' fe' hx5 hr5 hb5 hN4 hN5 hW5 hsr
    clear hG hx hrr hb hf hn h64 hys hSy hK hgr hxr hbr HB1 HGood HBad
    gi_wp2
    gi_region_elder_o
    all_goals gi_wp2
    all_goals rw [← HW5.out]
    all_goals refine ⟨by simp, .inl ⟨_, _, rfl, run_takeDeferred HK5.out, ?_⟩⟩
    all_goals obtain ⟨f0', f1', f2', fe'⟩ := Hf.out
    all_goals clear HW5 HK5 Hf c0 c1 c2 ce f0 f1 f2 fe
    all_goals exact ⟨.tuple #[.agg #[.int .i64 c, .int .u8 kind, .slice av n ca], .int .i64 0], by simp [results, Tryz.results9, go_sem, f0', f1', f2', fe'], Hfin.out⟩
  case stop =>
    rintro ys W ⟨rest, hrest⟩ ⟨hx, hf, hb⟩ hK
    have hx5 : Boxed w.heap.size 9 #[.int .i64 0, .int .u8 0, .slice none 0 0] (W.putObj (wr.heap.size) (.deferred none)) := hx.put (by omega) _
    have hb5 : Below w.heap.size w (W.putObj (wr.heap.size) (.deferred none)) := hb.grown (grownBy_putObj' _ _ _) hb.size (fun k e => by cases e; omega)
    have hfin := HBad.out _ _ _ hrest hf.out hb5
    have f0' := hx5.cellP 0
    have f1' := hx5.cellP 1
    have f2' := hx5.cellP 2
    have fe' := hx5.cellE
    simp only [List.getElem?_toArray, List.getElem?_cons_zero, List.getElem?_cons_succ] at f0' f1' f2'
    have Hfin := Lib.hid hfin; have HK5 := Lib.hid hK; have Hf := Lib.hid (And.intro f0' (And.intro f1' (And.intro f2' fe')))
    clear hfin f0' f1' f2' fe' hx5 hb5 hx hb hf hK hsr hgr hxr hbr HB1 HGood HBad hrest
    gi_wp2
    refine ⟨by simp, .inl ⟨_, _, rfl, run_takeDeferred HK5.out, ?_⟩⟩
    obtain ⟨f0', f1', f2', fe'⟩ := Hf.out
    exact ⟨.tuple #[.agg #[.int .i64 0, .int .u8 0, .slice none 0 0], .int .i64 9], by simp [results, Tryz.results9, go_sem, f0', f1', f2', fe'], Hfin.out⟩
/-- record.Tally, whatever its arguments. -/
theorem recTally (S : Nat → Prop) (v : Value) (l : List Btc) (c kind : Int) (w : World) (h : RBtcs S w v l) :
    Calls Tryz.prog 9 #[v, .int .i64 c, .int .u8 kind] w (TallyGives l c kind w) := by
  by_cases hr : recCheck l c kind = 0
  · exact tally_ok_walk S v l c kind w h hr
  · exact tally_bad_walk S v l c kind w h hr
end Go.Proofs.YtopdfijojjbjdaaGreat
