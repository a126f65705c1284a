/- The contracts of octet.fields and octet.Split: an iterator that hands over memory of its own making. -/
import Derived.Test.YtkjgddcjhikdgaaSpl
import Derived.Test.YtkjgddcjhikdgaaRng
import Derived.Test.YtkjgddcjhikdgaaAppIn
import Derived.Shelf.RegionOpen
import Derived.TacticsInMore
import Derived.LoopNIn
import Derived.LoopIn
namespace Go.Proofs.Ytkjgddcjhikdgaa
open Go Go.RowKit Go.Shelf
attribute [local go_sem] Oper.semAt_some

/-- What a round is handed: a field's value, its bytes, the error. -/
structure Yd where
  v : Value
  x : List Int
  e : Int
def encsY (y : Yd) : Array Value := #[y.v, .int .i64 y.e]
def RY (y : Yd) (W0 W1 : World) : Prop := (y.e = 0 ∧ y.x.length ≤ 1000000 ∧ ∃ a c, y.v = .slice a y.x.length c ∧ Own W0.heap.size 5 1 (dInt .u8) W1 y.v y.x) ∨ (y.e = 10 ∧ y.v = .slice none 0 0)
def SY (xs : List Int) (ys : List Yd) : Prop := ((∀ y ∈ ys, y.e = 0) ∧ splitG xs xs.length 0 = some (ys.map (·.x))) ∨ ∃ y ∈ ys, y.e ≠ 0
def SpY (xs : List Int) (ys : List Yd) : Prop := (∃ y ∈ ys, y.e ≠ 0) → splitG xs xs.length 0 = none
set_option maxHeartbeats 1000000 in
theorem fields1 (n : Nat) (hn : 2 ≤ n) (S : Nat → Prop) (n₀ bB : Nat) (v : Value) (xs : List Int) (w : World) (h : RBytes S w v xs) (hS : ∀ b, S b → b < n₀) (hn₀ : n₀ ≤ w.heap.size) (hl : xs.length ≤ 1000000)
    (hB : w.heap[bB]? = some (.cells #[v] 61 (0, 0))) : SeqNew n Try.prog 163 #[.pointer (some ⟨bB, 0, none⟩)] encsY RY n₀ xs.length (· = bB) (SY xs) (SpY xs) w := by
  intro l J Jx W hW hY h0
  have hRW := h.same (.of_below hW)
  have hBW := (hW.block bB (size_of_box hB)).trans hB
  have hnW := hW.size
  have h1n : 1 ≤ n := by omega
  obtain ⟨a, cap, rfl, h1, h2⟩ := RSl.shape h
  have HY := Lib.hid hY
  have HS := Lib.hid hS
  clear hY hS h hB
  refine callsIn_of_wp Try.func163 rfl trivial ?_ rfl
  simp only [Try.ntmps163, List.size_toArray, List.length_cons, List.length_nil, Nat.reduceAdd, Nat.reduceSub, Array.replicate_succ, Array.replicate_zero, List.push_toArray, List.append_toArray, List.nil_append, List.cons_append]
  gi_wp2
  gi_loopw [3] (fun i wr => ∃ (ys : List Yd) (p : Nat), i = .int .i64 p ∧ p ≤ xs.length ∧ Hid (SplitAt xs (ys.map (·.x)) p) ∧ Hid (∀ y ∈ ys, y.e = 0) ∧ Hid (J ys wr) ∧ RBytes S wr (.slice a xs.length cap) xs ∧ wr.heap[bB]? = some (.cells #[.slice a xs.length cap] 61 (0, 0)) ∧ n₀ ≤ wr.heap.size) (fun i _ => xs.length - (intOf i).toNat)
  case atStart => exact ⟨[], 0, rfl, Nat.zero_le _, Lib.hid (SplitAt.start xs), Lib.hid (fun _ h => by cases h), Lib.hid h0, hRW, hBW, by omega⟩
  case round =>
    obtain ⟨ys, p, rfl, hp, hat, hys, hJ, hR, hBr, hnr⟩ := hrel
    obtain ⟨-, hc, hf⟩ := own_box (Below.refl _ wr) (size_of_box hBr) hBr
    have hc0 : wr.cell? ⟨bB, 0, none⟩ = some (.slice a xs.length cap) := by simpa using hc 0
    have hf0 := hf 0
    clear hc hf
    have hys2 : ys.length ≤ xs.length := by have := hat.out.2.1; rw [List.length_map] at this; omega
    by_cases hlt : p < xs.length
    · have hT := octTakeField S _ xs p wr hR hp hl
      rcases ht : takeG xs p with _ | ⟨x, q⟩
      · have hN := hat.out.none hlt ht
        have hT' := hT.mono (fun e w' (hh : TakeGives xs p wr e w') => by rw [TakeGives, ht] at hh; exact hh)
        have hSp : SpY xs (ys ++ [⟨.slice none 0 0, [], 10⟩]) := fun _ => hN
        have hSy : SY xs (ys ++ [⟨.slice none 0 0, [], 10⟩]) := .inr ⟨⟨.slice none 0 0, [], 10⟩, by simp, by simp⟩
        have hYr := fun W1 hb => HY.out ys ⟨.slice none 0 0, [], 10⟩ wr W1 hJ.out hys2 hb (.inr ⟨rfl, rfl⟩)
        have HSp := Lib.hid hSp; have HSy := Lib.hid hSy; have HT := Lib.hid hT'; have HYr := Lib.hid hYr
        clear hSp hSy hT hT' hYr ht hN
        gi_wp2_with (refine ⟨trivial, ?_⟩; gi_at_call 164; refine (callsIn_wide.2 HT.out).mono ?_; rintro e w1 ⟨rfl, hb1⟩; obtain ⟨fn, tmps, assign, body, hy, hRd⟩ := HYr.out w1 hb1; dsimp only [encsY] at hy)
        refine hRd.mono ?_
        rintro e W' (⟨rfl, hJ', hk⟩ | ⟨rfl, hJx'⟩)
        · gi_wp2
          refine bodyPost_ret (results_none rfl _ _ _) rfl ?_
          exact ⟨⟨_, rfl⟩, .inl ⟨_, HSy.out, hJ'⟩⟩
        · gi_wp2
          refine bodyPost_ret (results_none rfl _ _ _) rfl ?_
          exact ⟨⟨_, rfl⟩, .inr ⟨_, HSp.out, hJx'⟩⟩
      · have hA := hat.out.some hlt ht
        obtain ⟨k1, k2, k3⟩ := takeG_some ht
        have hxl : x.length ≤ 1000000 := by
          unfold takeG at ht
          split at ht
          · cases ht
          · split at ht
            · cases ht
            · simp at ht
              obtain ⟨rfl, -⟩ := ht
              rw [List.length_take, List.length_drop]; omega
        have hT' := hT.mono (fun e w' (hh : TakeGives xs p wr e w') => by rw [TakeGives, ht] at hh; exact hh)
        have hYr := fun W1 a1 c1 hb ho => HY.out ys ⟨.slice a1 x.length c1, x, 0⟩ wr W1 hJ.out hys2 hb (.inl ⟨rfl, hxl, a1, c1, rfl, ho⟩)
        have hSp : ∀ u, SpY xs (ys ++ [⟨u, x, 0⟩]) := fun u ⟨y, hy, hy0⟩ => by
          rcases List.mem_append.1 hy with hy | hy
          · exact absurd (hys.out y hy) hy0
          · simp at hy; subst hy; exact absurd rfl hy0
        have hE : ∀ u : Value, ∀ y ∈ ys ++ [(⟨u, x, 0⟩ : Yd)], y.e = 0 := fun u y hy => by
          rcases List.mem_append.1 hy with hy | hy
          · exact hys.out y hy
          · simp at hy; subst hy; rfl
        have HSp := Lib.hid hSp; have HT := Lib.hid hT'; have HYr := Lib.hid hYr; have HA := Lib.hid hA; have HE := Lib.hid hE
        clear hSp hT hT' hYr ht hA hE
        gi_wp2_with (refine ⟨trivial, ?_⟩; gi_at_call 164; refine (callsIn_wide.2 HT.out).mono ?_; rintro e w1 ⟨a1, c1, rfl, ho, hb1⟩; obtain ⟨fn, tmps, assign, body, hy, hRd⟩ := HYr.out w1 a1 c1 hb1 ho; dsimp only [encsY] at hy)
        refine hRd.mono ?_
        rintro e W' (⟨rfl, hJ', hk, hkb⟩ | ⟨rfl, hJx'⟩)
        · have hk0 := hkb bB rfl
          have hl1 := hb1.size
          gi_wp2
          refine ⟨⟨_, q, rfl, k2, Lib.hid ?_, Lib.hid (HE.out _), Lib.hid hJ', (hR.same (.of_below hb1)).same (fun b hb hs => hk.block b (HS.out b hs)), hk0.trans ((hb1.block bB (size_of_box hBr)).trans hBr), ?_⟩, ?_⟩
          · simpa using HA.out
          · have := hk.size; omega
          · simp [intOf]; omega
        · gi_wp2
          refine bodyPost_ret (results_none rfl _ _ _) rfl ?_
          exact ⟨⟨_, rfl⟩, .inr ⟨_, HSp.out _, hJx'⟩⟩
    · have hN := hat.out.over hlt
      have hSy : SY xs ys := .inl ⟨hys.out, hN⟩
      have HSy := Lib.hid hSy
      clear hSy hN
      gi_wp2
      go_end0
      exact ⟨⟨_, rfl⟩, .inl ⟨ys, HSy.out, hJ.out⟩⟩
theorem octFields (a : Option Addr) (n c : Nat) (w : World) : Calls Try.prog 129 #[.slice a n c] w fun e w' => e = .returned (.func (.func 163) #[] #[.pointer (some ⟨w.heap.size, 0, none⟩)]) ∧ w' = w.alloc (.cells #[.slice a n c] 61) := by
  go_enter Try.func129, Try.ntmps129
  go_wp2
  go_ret
  exact ⟨rfl, rfl⟩
theorem OwnX.putObj {α : Type} {base : Nat} {e : TypeId} {n : Nat} {dec : (Nat → Prop) → World → List Value → α → Prop} (F : Fam dec) {w : World} {v : Value} {xs : List α} (h : OwnX base e n dec w v xs) {l : Nat} (hl : l < base) (o : Obj) : OwnX base e n dec (w.putObj l o) v xs :=
  Own.dmono (fun _ _ hd => F.mono (fun _ hb => ⟨hb.1, by simpa using hb.2.1, hb.2.2⟩) hd)
    (Own.kept (F.stable _) h (grownBy_putObj' w l o) (by
      cases hv : v.ownBlock with
      | none => exact .inl rfl
      | some k => exact .inr (fun e => by cases e; have := (Own.lt h _ hv).1; omega)) (fun b _ hs => World.putObj_heap_other (fun e => by have := hs.1; omega)))
theorem OwnX.low {α : Type} {b b' : Nat} {e : TypeId} {n : Nat} {dec : (Nat → Prop) → World → List Value → α → Prop} (F : Fam dec) (hb : b' ≤ b) {w : World} {v : Value} {xs : List α} (h : OwnX b e n dec w v xs) : OwnX b' e n dec w v xs := by
  obtain ⟨cells, ⟨h1, h2⟩, hd⟩ := Own.dmono (d' := dec (Rg b' w v)) (fun _ _ hd => F.mono (fun _ hx => ⟨Nat.le_trans hb hx.1, hx.2⟩) hd) h
  refine ⟨cells, ⟨h1, ?_⟩, hd⟩
  rcases h2 with h2 | ⟨g, cap, cur, rfl, hg, hr⟩
  · exact .inl h2
  · exact .inr ⟨g, cap, cur, rfl, Nat.le_trans hb hg, hr⟩
theorem OwnX.cells {α : Type} {base : Nat} {e : TypeId} {n : Nat} {dec : (Nat → Prop) → World → List Value → α → Prop} {w : World} {v : Value} {xs : List α} (h : OwnX base e n dec w v xs) (j : Nat) (o : Obj) (hj : v.ownBlock = some j) (ho : w.heap[j]? = some o) : o.isCells = true := by
  obtain ⟨cells, hw, _⟩ := h
  rcases hw.2 with ⟨rfl, _⟩ | ⟨g, cap, cur, rfl, _, hg, _⟩
  · cases hj
  · cases hj; rw [hg] at ho; cases ho; rfl
theorem field_here {m base : Nat} {w w' : World} {v ov : Value} {x : List Int} {ys : List (List Int)} (h : Own m 5 1 (dInt .u8) w' v x) (hx : x.length ≤ 1000000) (ho : OwnX base 61 1 dField w ov ys) (hb : base ≤ m) (hm : m = w.heap.size) :
    dField (Rg base w' ov) w' [v] x := by
  subst hm
  refine ⟨v, rfl, ?_⟩
  have hr := OwnX.rsl (famInt .u8) (by omega) (show OwnX w.heap.size 5 1 (fun _ => dInt .u8) w' v x from h) (by omega)
  refine RSl.mono (fun _ _ _ h => h) (fun b hb' => ⟨Nat.le_trans hb hb'.1, hb'.2, fun he => ?_⟩) hr
  have := (Own.lt ho b he.symm).2
  have := hb'.1; omega
set_option maxHeartbeats 4000000 in
set_option maxRecDepth 100000 in
theorem octSplit (S : Nat → Prop) (v : Value) (xs : List Int) (w : World) (h : RBytes S w v xs) (hl : xs.length ≤ 1000000) :
    Calls Try.prog 88 #[v] w (SplitGives xs w) := by
  refine (callsIn_wide (n := 8)).1 ?_
  have hC : RBytes (Cut S w.heap.size) w v xs := RSl.cut (by omega) (fun _ _ h => h) h
  obtain ⟨a, cap, rfl, h1, h2⟩ := RSl.shape h
  refine callsIn_of_wp_marks Try.func88 rfl trivial ?_ rfl
  simp only [Try.ntmps88, List.size_toArray, List.length_cons, List.length_nil, Nat.reduceAdd, Nat.reduceSub, Array.replicate_succ, Array.replicate_zero, List.push_toArray, List.append_toArray, List.nil_append, List.cons_append]
  have h18 : 1 ≤ 8 := by omega
  by_cases hlong : 16384 < xs.length
  · have hG : ∀ w', Below w.heap.size w w' → SplitGives xs w (.returned (.tuple #[.slice none 0 0, .int .i64 4])) w' := fun w' hb => ⟨_, by rw [splitE, if_pos hlong], by rw [splitV, if_pos hlong]; exact OwnX.nil _ _ _ _ _, hb⟩
    have HG := Lib.hid hG
    clear hG
    gi_wp2
    refine ⟨.tuple #[.slice none 0 0, .int .i64 4], ?_, HG.out _ (((Below.refl _ w).alloc (Nat.le_refl _) _).alloc (by simp) _)⟩
    have e0 : ((w.alloc (.cells #[.slice none 0 0] 140)).alloc (.cells #[.int .i64 4] 30)).heap[w.heap.size]? = some (.cells #[.slice none 0 0] 140 (0, 0)) := box_old _ (box_new _ _)
    have e1 : ((w.alloc (.cells #[.slice none 0 0] 140)).alloc (.cells #[.int .i64 4] 30)).heap[w.heap.size + 1]? = some (.cells #[.int .i64 4] 30 (0, 0)) := by
      have := box_new (w.alloc (.cells #[.slice none 0 0] 140)) (.cells #[.int .i64 4] 30)
      rwa [World.size_alloc] at this
    have hc0 : ((w.alloc (.cells #[.slice none 0 0] 140)).alloc (.cells #[.int .i64 4] 30)).cell? ⟨w.heap.size, 0, none⟩ = some (.slice none 0 0) := (own_box (Below.refl _ _) (size_of_box e0) e0).2.1 0
    have hc1 : ((w.alloc (.cells #[.slice none 0 0] 140)).alloc (.cells #[.int .i64 4] 30)).cell? ⟨w.heap.size + 1, 0, none⟩ = some (.int .i64 4) := (own_box (Below.refl _ _) (size_of_box e1) e1).2.1 0
    simp [results, Try.results88, go_sem, hc0, hc1]
  · have hBad := fun w' hg hb => SplitGives.bad (w := w) (w' := w') hlong hg hb
    have hGood := fun w' v ys hg ho hb => SplitGives.good (w := w) (w' := w') (v := v) (ys := ys) hlong hg ho hb
    have HBad := Lib.hid hBad; have HGood := Lib.hid hGood
    clear hBad hGood
    gi_wp2_with (refine ⟨trivial, ?_⟩; gi_at_call 129; refine (callsIn_wide.2 (octFields _ _ _ _)).mono ?_; rintro e w1 ⟨rfl, rfl⟩)
    obtain ⟨w1, hw1⟩ : ∃ w1, w1 = ((w.alloc (.cells #[.slice none 0 0] 140)).alloc (.cells #[.int .i64 0] 30)).alloc (.cells #[.slice a xs.length cap] 61) := ⟨_, rfl⟩
    have hsz : w1.heap.size = w.heap.size + 3 := by rw [hw1]; simp
    have hb1 : Below w.heap.size w w1 := by rw [hw1]; exact (((Below.refl _ w).alloc (Nat.le_refl _) _).alloc (by simp) _).alloc (by simp; omega) _
    have g0 : w1.heap[w.heap.size]? = some (.cells #[.slice none 0 0] 140 (0, 0)) := by rw [hw1]; exact box_old _ (box_old _ (box_new _ _))
    have g1 : w1.heap[w.heap.size + 1]? = some (.cells #[.int .i64 0] 30 (0, 0)) := by
      rw [hw1]
      have := box_new (w.alloc (.cells #[.slice none 0 0] 140)) (.cells #[.int .i64 0] 30)
      rw [World.size_alloc] at this
      exact box_old _ this
    have g2 : w1.heap[w.heap.size + 2]? = some (.cells #[.slice a xs.length cap] 61 (0, 0)) := by
      rw [hw1]
      have := box_new ((w.alloc (.cells #[.slice none 0 0] 140)).alloc (.cells #[.int .i64 0] 30)) (.cells #[.slice a xs.length cap] 61)
      rwa [World.size_alloc, World.size_alloc] at this
    rw [← hw1]
    refine wpIn_rangeFunc_new (n := 8) (gf := 163) (lb := #[.pointer (some ⟨w.heap.size + 2, 0, none⟩)]) rfl (enters_of Try.func163 (by kernel_rfl) rfl)
      (fields1 7 (by omega) (Cut S w.heap.size) w.heap.size (w.heap.size + 2) _ xs w1 (hC.same (.of_below hb1)) (fun b hb => hb.2) (by omega) hl g2) (by omega) (fun b hb => by omega) (Below.refl _ _) (fun _ => rfl)
      (fun pre W => ∃ ov, W.heap[w.heap.size]? = some (.cells #[ov] 140 (0, 0)) ∧ W.heap[w.heap.size + 1]? = some (.cells #[.int .i64 0] 30 (0, 0)) ∧ OwnX (w.heap.size + 5) 61 1 dField W ov (pre.map (·.x)) ∧ Hid (∀ y ∈ pre, y.e = 0) ∧ Below w.heap.size w W ∧ w.heap.size + 5 ≤ W.heap.size)
      (fun pre W => W.heap[w.heap.size]? = some (.cells #[.slice none 0 0] 140 (0, 0)) ∧ W.heap[w.heap.size + 1]? = some (.cells #[.int .i64 10] 30 (0, 0)) ∧ Hid (∃ y ∈ pre, y.e ≠ 0) ∧ Below w.heap.size w W)
      ?ip ?ixp ?h0 ?a1 ?assign ?body ?done ?stop
    case assign =>
      intro l x W K hK
      simp [encsY]
      gi_wp2
      exact hK
    case ip =>
      rintro s W l o h3 h4 ⟨ov, c0, c1, ho, hy, hb, hz⟩
      refine ⟨ov, (World.putObj_heap_other (by omega)).trans c0, (World.putObj_heap_other (by omega)).trans c1, ho.putObj famField (by omega) o, hy, hb.grown (grownBy_putObj' W l o) hb.size (fun k e => by cases e; omega), by simpa using hz⟩
    case ixp =>
      rintro s W l o h3 h4 ⟨c0, c1, hy, hb⟩
      exact ⟨(World.putObj_heap_other (by omega)).trans c0, (World.putObj_heap_other (by omega)).trans c1, hy, hb.grown (grownBy_putObj' W l o) hb.size (fun k e => by cases e; omega)⟩
    case h0 =>
      intro W hb hz
      exact ⟨_, (hb.block _ (by omega)).trans g0, (hb.block _ (by omega)).trans g1, OwnX.nil _ _ _ _ _, Lib.hid (fun _ h => by cases h), hb1.trans (hb.mono (by omega)), by omega⟩
    case body =>
      rintro l pre ⟨yv, yx, ye⟩ W0 W1 o ⟨ov, c0, c1, ho, hy, hb, hz⟩ hN hlt hbW hR
      obtain ⟨W2, hW2⟩ : ∃ W2, W2 = W1.putObj (w1.heap.size + 1) o := ⟨_, rfl⟩
      rw [← hW2]
      have hs1 := hbW.size
      have hs2 : W2.heap.size = W1.heap.size := by rw [hW2]; simp
      have hoth : ∀ b, b ≠ w1.heap.size + 1 → W2.heap[b]? = W1.heap[b]? := fun b hb => by rw [hW2]; exact World.putObj_heap_other hb
      have d0 : W2.heap[w.heap.size]? = some (.cells #[ov] 140 (0, 0)) := (hoth _ (by omega)).trans ((hbW.block _ (by omega)).trans c0)
      have d1 : W2.heap[w.heap.size + 1]? = some (.cells #[.int .i64 0] 30 (0, 0)) := (hoth _ (by omega)).trans ((hbW.block _ (by omega)).trans c1)
      have k0 := own_box (Below.refl _ W2) (size_of_box d0) d0
      have k1 := own_box (Below.refl _ W2) (size_of_box d1) d1
      have kc0 : W2.cell? ⟨w.heap.size, 0, none⟩ = some ov := k0.2.1 0
      have kc1 : W2.cell? ⟨w.heap.size + 1, 0, none⟩ = some (.int .i64 0) := k1.2.1 0
      have kf0 := k0.2.2 0
      have kf1 := k1.2.2 0
      have hb2 : Below w.heap.size w W2 := by rw [hW2]; exact (hb.trans (hbW.mono (by omega))).grown (grownBy_putObj' _ _ _) (by have := hb.size; omega) (fun k e => by cases e; omega)
      have ho2 : OwnX (w.heap.size + 5) 61 1 dField W2 ov (pre.map (·.x)) := by rw [hW2]; exact (ho.below famField hbW).putObj famField (by omega) o
      obtain ⟨aov, cov, hov⟩ := ho2.shape
      rw [List.length_map] at hov
      subst hov
      have Hho := Lib.hid ho
      clear k0 k1 hoth ho c0 c1
      rcases hR with ⟨he, hyl, a1, c1, hv, hof⟩ | ⟨he, hv⟩
      · simp only at he hv hyl hof
        subst he hv
        have hD1 := field_here hof hyl Hho.out (by omega) rfl
        have hD2 : dField (Rg (w.heap.size + 5) W2 (.slice aov pre.length cov)) W2 [.slice a1 yx.length c1] yx := by
          have hD := dField.stable _ _ W2 _ _ (fun b hb hs => by rw [hW2]; exact World.putObj_heap_other (by have := hs.1; omega)) hD1
          exact dField.mono (fun b hb => ⟨hb.1, by rw [hs2]; exact hb.2.1, hb.2.2⟩) hD
        have hD3 : dField (Rg (w.heap.size + 5) (W2.alloc (.cells #[.slice a1 yx.length c1] 61)) (.slice aov pre.length cov)) (W2.alloc (.cells #[.slice a1 yx.length c1] 61)) [.slice a1 yx.length c1] yx :=
          dField.mono (fun b hb => ⟨hb.1, by have := hb.2.1; simp; omega, hb.2.2⟩) (dField.stable _ _ _ _ _ (.of_below (below_new _ _)) hD2)
        have hO3 := ho2.below famField (below_new W2 (.cells #[.slice a1 yx.length c1] 61))
        have hpl : pre.length ≤ 1000000 := by omega
        have HD3 := Lib.hid hD3; have Hd0 := Lib.hid d0; have Hd1 := Lib.hid d1
        have hE : ∀ y ∈ pre ++ [(⟨.slice a1 yx.length c1, yx, 0⟩ : Yd)], y.e = 0 := fun y hy' => by
          rcases List.mem_append.1 hy' with hy' | hy'
          · exact hy.out y hy'
          · simp at hy'; subst hy'; rfl
        have HE := Lib.hid hE
        have hlm : (pre.map (·.x)).length = pre.length := by simp
        have Hlm := Lib.hid hlm
        have Hho2 := Lib.hid ho2
        have hge : w.heap.size + 5 ≤ W2.heap.size := by omega
        have HW2 := Lib.hid hW2; have Hsz := Lib.hid hsz; have Hs2 := Lib.hid hs2
        clear hD1 hD2 hD3 hof Hho d0 d1 hE hlm ho2 hy hW2 hsz hs2 hw1
        gi_wp2_with (gi_at_builtin; go_must (refine wpListIn_appX _ Try.infoField rfl rfl Try.underlying140 ⟨rfl, by omega, by omega⟩ famField (w.heap.size + 5) hO3 rfl (g := W2.heap.size) (cs := [.slice a1 yx.length c1]) (y := yx) (box_new _ _) rfl HD3.out rfl (by have := Hlm.out; omega) (by simp; omega) ?_); go_must (intro a' n' c' w3 hgr hO; have hne : ∀ b, b < w.heap.size + 5 → some b ≠ (Value.slice aov pre.length cov).ownBlock := fun b hb e => (by have := (Own.lt hO3 b e.symm).1; omega); have e0 := (hgr.block w.heap.size (by simp; omega) (hne _ (by omega))).trans (box_old _ Hd0.out); have q0 := own_box (Below.refl _ w3) (size_of_box e0) e0; have q1 := q0.2.1 0; have q2 := q0.2.2 0))
        have hb3 := hb2.alloc hb2.size (.cells #[.slice a1 yx.length c1] 61)
        have hsz3 := hgr.size
        rw [World.size_alloc] at hsz3
        refine ⟨?_, ?_, ?_, _, heap_setCell_at e0 _, ?_, ?_, Lib.hid HE.out, ?_, ?_⟩
        · exact (KeepsOthers.alloc _ _).trans ((KeepsOthers.of_grownBy hgr (fun j o' hj ho' => OwnX.cells hO3 j o' hj ho')).trans (KeepsOthers.setCell _ _ _))
        · exact ((((Below.refl w.heap.size W2).alloc (by omega) _).grown hgr (by simp; omega) (fun k e => by have := (Own.lt hO3 k e).1; omega)).setCell (p := ⟨w.heap.size, 0, none⟩) (Nat.le_refl _) _)
        · rintro b rfl
          refine (Below.heap_setCell _ _ _ _ (by simp)).trans ((hgr.block _ (by simp; omega) (hne _ (by omega))).trans ?_)
          exact (below_new W2 _).block _ (by omega)
        · refine (Below.heap_setCell _ _ _ _ (by simp)).trans ((hgr.block _ (by simp; omega) (hne _ (by omega))).trans ?_)
          exact box_old _ Hd1.out
        · have := hO.setCell famField (p := ⟨w.heap.size, 0, none⟩) (by simp) (.slice a' n' c')
          simpa using this
        · exact (hb3.grown hgr (by simp; omega) (fun k e => by have := (Own.lt hO3 k e).1; omega)).setCell (p := ⟨w.heap.size, 0, none⟩) (Nat.le_refl _) _
        · rw [size_setCell']; omega
      · simp only at he hv
        subst he hv
        have hge : w.heap.size + 5 ≤ W2.heap.size := by omega
        have Hd0 := Lib.hid d0; have Hd1 := Lib.hid d1
        clear hsz hs2 hW2 hw1 d0 d1
        gi_wp2
        refine ⟨(KeepsOthers.setCell _ _ _).trans (KeepsOthers.setCell _ _ _), ?_, ?_, Lib.hid ⟨_, List.mem_append_right _ (List.mem_singleton_self _), by simp⟩, ?_⟩
        · exact (Below.heap_setCell _ _ _ _ (by simp)).trans (heap_setCell_at Hd0.out _)
        · have := (Below.heap_setCell W2 ⟨w.heap.size, 0, none⟩ (.slice none 0 0) (w.heap.size + 1) (by simp)).trans Hd1.out
          exact heap_setCell_at this _
        · exact (hb2.setCell (p := ⟨w.heap.size, 0, none⟩) (Nat.le_refl _) _).setCell (p := ⟨w.heap.size + 1, 0, none⟩) (by simp) _
    case done =>
      rintro ys W hS ⟨ov, c0, c1, ho, hy, hb, hz⟩ hK
      have hgd : splitG xs xs.length 0 = some (ys.map (·.x)) := by
        rcases hS with ⟨_, hS⟩ | ⟨y, hy1, hy2⟩
        · exact hS
        · exact absurd (hy.out y hy1) hy2
      obtain ⟨aov, cov, hov⟩ := ho.shape
      rw [List.length_map] at hov
      subst hov
      have k0 := own_box (Below.refl _ W) (size_of_box c0) c0
      have k1 := own_box (Below.refl _ W) (size_of_box c1) c1
      have kc0 : W.cell? ⟨w.heap.size, 0, none⟩ = some (.slice aov ys.length cov) := k0.2.1 0
      have kc1 : W.cell? ⟨w.heap.size + 1, 0, none⟩ = some (.int .i64 0) := k1.2.1 0
      have kf0 := k0.2.2 0
      have kf1 := k1.2.2 0
      obtain ⟨W3, hW3⟩ : ∃ W3, W3 = (W.setCell ⟨w.heap.size, 0, none⟩ (.slice aov ys.length cov)).setCell ⟨w.heap.size + 1, 0, none⟩ (.int .i64 0) := ⟨_, rfl⟩
      have e0 : W3.heap[w.heap.size]? = some (.cells #[.slice aov ys.length cov] 140 (0, 0)) := by
        rw [hW3]; exact (Below.heap_setCell _ _ _ _ (by simp)).trans (heap_setCell_at c0 _)
      have e1 : W3.heap[w.heap.size + 1]? = some (.cells #[.int .i64 0] 30 (0, 0)) := by
        rw [hW3]; exact heap_setCell_at ((Below.heap_setCell _ _ _ _ (by simp)).trans c1) _
      have hb3 : Below w.heap.size w W3 := by rw [hW3]; exact (hb.setCell (p := ⟨w.heap.size, 0, none⟩) (Nat.le_refl _) _).setCell (p := ⟨w.heap.size + 1, 0, none⟩) (by simp) _
      have hK3 : W3.heap[w1.heap.size]? = some (.deferred (some [])) := by
        rw [hW3]; exact (Below.heap_setCell _ _ _ _ (by simp; omega)).trans ((Below.heap_setCell _ _ _ _ (by simp; omega)).trans hK)
      have ho3 : OwnX (w.heap.size + 5) 61 1 dField W3 (.slice aov ys.length cov) (ys.map (·.x)) := by rw [hW3]; exact (ho.setCell famField (by simp) _).setCell famField (by simp) _
      have hR : SplitGives xs w (.returned (.tuple #[.slice aov ys.length cov, .int .i64 0])) (W3.putObj w1.heap.size (.deferred none)) := by
        exact HGood.out _ _ _ hgd (OwnX.low famField (by omega) (ho3.putObj famField (by omega) _)) (hb3.grown (grownBy_putObj' _ _ _) hb3.size (fun k e => by cases e; omega))
      have e0' : (W3.putObj w1.heap.size (.deferred none)).heap[w.heap.size]? = some (.cells #[.slice aov ys.length cov] 140 (0, 0)) := (World.putObj_heap_other (by omega)).trans e0
      have e1' : (W3.putObj w1.heap.size (.deferred none)).heap[w.heap.size + 1]? = some (.cells #[.int .i64 0] 30 (0, 0)) := (World.putObj_heap_other (by omega)).trans e1
      have f0 := (own_box (Below.refl _ _) (size_of_box e0') e0').2.1 0
      have f1 := (own_box (Below.refl _ _) (size_of_box e1') e1').2.1 0
      have HR := Lib.hid hR
      rw [hW3] at hK3 HR f0 f1
      clear hS hgd k0 k1 hW3 e0 e1 e0' e1' ho3 hb3 hR hw1 hsz ho hy hb hz
      gi_wp2
      refine ⟨by simp, .inl ⟨_, _, rfl, run_takeDeferred hK3, ?_⟩⟩
      exact ⟨.tuple #[.slice aov ys.length cov, .int .i64 0], by simp at f0 f1; simp [results, Try.results88, go_sem, f0, f1], HR.out⟩
    case stop =>
      rintro ys W hS ⟨c0, c1, hy, hb⟩ hK
      have hgd : splitG xs xs.length 0 = none := hS hy.out
      have hR : SplitGives xs w (.returned (.tuple #[.slice none 0 0, .int .i64 10])) (W.putObj w1.heap.size (.deferred none)) :=
        HBad.out _ hgd (hb.grown (grownBy_putObj' _ _ _) hb.size (fun k e => by cases e; omega))
      have e0' : (W.putObj w1.heap.size (.deferred none)).heap[w.heap.size]? = some (.cells #[.slice none 0 0] 140 (0, 0)) := (World.putObj_heap_other (by omega)).trans c0
      have e1' : (W.putObj w1.heap.size (.deferred none)).heap[w.heap.size + 1]? = some (.cells #[.int .i64 10] 30 (0, 0)) := (World.putObj_heap_other (by omega)).trans c1
      have f0 := (own_box (Below.refl _ _) (size_of_box e0') e0').2.1 0
      have f1 := (own_box (Below.refl _ _) (size_of_box e1') e1').2.1 0
      have HR := Lib.hid hR
      clear hS hgd e0' e1' hR hw1 hsz hy hb
      gi_wp2
      refine ⟨by simp, .inl ⟨_, _, rfl, run_takeDeferred hK, ?_⟩⟩
      exact ⟨.tuple #[.slice none 0 0, .int .i64 10], by simp at f0 f1; simp [results, Try.results88, go_sem, f0, f1], HR.out⟩
end Go.Proofs.Ytkjgddcjhikdgaa
