/- Texts of one claim, put together: GreR, GreS, GreI. -/
import Derived.Test.YthcbkhfmdginiaaGreatFGGreA
import Derived.Test.YthcbkhfmdginiaaGreatFGRen

namespace Go.Proofs.YthcbkhfmdginiaaGreat
open Go Go.RowKit Go.Shelf Limb

structure RndA (k : GCn) (wd : World) (ve vrd vt vr vst : Value) (g : Nat) (w : World) (ve' vt' : Value) (rv : RV) (inn el ee : List Int) (rounds : List Rnd) (ties : List Tie) (vh vn vd v1 v2 : Value) : Prop where
 st : GSt k w ve' vrd vt' vr vst rv inn el ee rounds ties
 box : w.heap[g]? = some (.cells #[vh, .bool false, vn, vd, v1, v2] 58 (0, 0))
 keep : Keep (some g :: k.M ve vrd vt vr vst) wd w
 m1 : Mv wd ve ve'
 m2 : Mv wd vt vt'
 gx : some g ∈ k.x
 gM : some g ∉ k.M ve vrd vt vr vst
 gl : g < wd.heap.size
 gC : k.gC ≤ g
section
variable {k : GCn} {wd w w1 : World} {ve vrd vt vr vst ve' vt' ve2 vt2 : Value} {g : Nat} {rv rv' : RV} {inn el ee inn' el' ee' : List Int} {rounds : List Rnd} {ties ties' : List Tie} {vh vn vd v1 v2 : Value}
theorem RndA.out (h : RndA k wd ve vrd vt vr vst g w ve' vt' rv inn el ee rounds ties vh vn vd v1 v2) : some g ∉ k.M ve' vrd vt' vr vst := fun hm => h.gM (GSt.mv h.m1 (Mv.refl _ _) h.m2 g h.gl hm)
theorem RndA.go (h : RndA k wd ve vrd vt vr vst g w ve' vt' rv inn el ee rounds ties vh vn vd v1 v2) {L : Blks} (hk : Keep L w w1) (hL : ∀ b, some b ∈ L → some b ∈ k.M ve' vrd vt' vr vst) (n1 : Mv w ve' ve2) (n2 : Mv w vt' vt2)
  (hs : GSt k w1 ve2 vrd vt2 vr vst rv' inn' el' ee' rounds ties') : RndA k wd ve vrd vt vr vst g w1 ve2 vt2 rv' inn' el' ee' rounds ties' vh vn vd v1 v2 := by
 have tr : ∀ {v v' v'' : Value}, Mv wd v v' → Mv w v' v'' → Mv wd v v'' := fun a b => by
  rcases b with b | ⟨c, b, hc⟩
  ·rcases a with a | ⟨c, a, hc⟩
   ·exact .inl (b.trans a)
   ·exact .inr ⟨c, b.trans a, hc⟩
  ·exact .inr ⟨c, b, Nat.le_trans h.keep.size hc⟩
 refine ⟨hs, hk.box h.box (fun hm => h.out (hL _ hm)), h.keep.trans hk fun b hb hm => List.mem_cons_of_mem _ (GSt.mv h.m1 (Mv.refl _ _) h.m2 b hb (hL b hm)), tr h.m1 n1, tr h.m2 n2, h.gx, h.gM, h.gl, h.gC⟩
theorem RndA.below (h : RndA k wd ve vrd vt vr vst g w ve' vt' rv inn el ee rounds ties vh vn vd v1 v2) (hb : Below w.heap.size w w1) : RndA k wd ve vrd vt vr vst g w1 ve' vt' rv inn el ee rounds ties vh vn vd v1 v2 :=
 h.go (Keep.of_below (K := []) hb) (fun _ h => by cases h) (Mv.refl _ _) (Mv.refl _ _) (h.st.below hb)
theorem RndA.tell (h : RndA k wd ve vrd vt vr vst g w ve' vt' rv inn el ee rounds ties vh vn vd v1 v2) (hr : TellR (k.gc + 1) k.gC (k.R w ve' vrd vt' vr vst) ve' vrd vt' k.vl ties' w w1) : ∃ vt2, RndA k wd ve vrd vt vr vst g w1 ve' vt2 rv inn el ee rounds ties' vh vn vd v1 v2 := by
 obtain ⟨vt2, h1, h2, h3⟩ := h.st.tell hr
 refine ⟨vt2, h.go h2 (fun b hb => ?_) (Mv.refl _ _) h3 h1⟩
 simp only [List.mem_cons, List.not_mem_nil, or_false] at hb
 simp only [GCn.M, List.mem_cons, List.not_mem_nil, or_false]
 rcases hb with e | e
 ·exact .inl e
 ·exact .inr (.inr (.inr (.inr (.inl e))))
theorem RndA.elect (h : RndA k wd ve vrd vt vr vst g w ve' vt' rv inn el ee rounds ties vh vn vd v1 v2) (hs : GSt k w1 ve2 vrd vt' vr vst rv' inn' el' ee' rounds ties) (hk : Keep (k.M ve' vrd vt' vr vst) w w1) (hm : Mv w ve' ve2) : RndA k wd ve vrd vt vr vst g w1 ve2 vt' rv' inn' el' ee' rounds ties vh vn vd v1 v2 :=
 h.go hk (fun _ h => h) hm (Mv.refl _ _) hs
theorem RndA.pass (h : RndA k wd ve vrd vt vr vst g w ve' vt' rv inn el ee rounds ties vh vn vd v1 v2) (hO : Own (k.gc + 1) 93 3 (dGRow fun b => b < k.lo) w1 vr rv') (hk : Keep [vr.ownBlock] w w1) : RndA k wd ve vrd vt vr vst g w1 ve' vt' rv' inn el ee rounds ties vh vn vd v1 v2 :=
 h.go hk (fun b hb => by simp only [List.mem_singleton] at hb; simp [GCn.M, hb]) (Mv.refl _ _) (Mv.refl _ _) (h.st.passed hO hk)
theorem RndA.state (h : RndA k wd ve vrd vt vr vst g w ve' vt' rv inn el ee rounds ties vh vn vd v1 v2) {j gs : Nat} (hj : j < k.C) (hg : vst.ownBlock = some gs) (u : Value) (hu : u.oneCell' = true) (hL : stL k.C inn' el' = (stL k.C inn el).set j u) :
  RndA k wd ve vrd vt vr vst g (w.setCell ⟨gs, j, none⟩ u) ve' vt' rv inn' el' ee rounds ties vh vn vd v1 v2 := by
 obtain ⟨h1, h2⟩ := h.st.state hj hg u hu hL
 exact h.go h2 (fun b hb => by simp only [List.mem_singleton] at hb; simp [GCn.M, hb]) (Mv.refl _ _) (Mv.refl _ _) h1
theorem RndA.put (h : RndA k wd ve vrd vt vr vst g w ve' vt' rv inn el ee rounds ties vh vn vd v1 v2) (u : Value) : RndA k wd ve vrd vt vr vst g (w.setCell ⟨g, 4, none⟩ u) ve' vt' rv inn el ee rounds ties vh vn vd u v2 ∧ RndA k wd ve vrd vt vr vst g (w.setCell ⟨g, 5, none⟩ u) ve' vt' rv inn el ee rounds ties vh vn vd v1 u := by
 have hst := fun o => h.st.aside ((Keep.refl [some g] w).setIn g o u (.inl (by simp))) fun b hb => by
  rw [List.mem_singleton, Option.some.injEq] at hb
  subst hb
  exact ⟨h.gx, h.out, h.gC⟩
 have hk := fun o => h.keep.setIn g o u (.inl List.mem_cons_self)
 exact ⟨⟨hst 4, by rw [heap_setCell_at h.box]; rfl, hk 4, h.m1, h.m2, h.gx, h.gM, h.gl, h.gC⟩, ⟨hst 5, by rw [heap_setCell_at h.box]; rfl, hk 5, h.m1, h.m2, h.gx, h.gM, h.gl, h.gC⟩⟩
theorem RndA.side {X Y : Blks} (h : RndA { k with x := X } wd ve vrd vt vr vst g w ve' vt' rv inn el ee rounds ties vh vn vd v1 v2) (hb : Below w.heap.size w w1) (hg : some g ∈ Y) (hY : ∀ b, some b ∈ Y → b < w1.heap.size ∧ (some b ∈ X ∨ w.heap.size ≤ b)) : RndA { k with x := Y } wd ve vrd vt vr vst g w1 ve' vt' rv inn el ee rounds ties vh vn vd v1 v2 :=
 have h1 := h.below hb
 ⟨h.st.side hb hY, h1.box, h1.keep, h1.m1, h1.m2, hg, h.gM, h.gl, h.gC⟩
theorem RndA.grow {X Y : Blks} (h : RndA { k with x := X } wd ve vrd vt vr vst g w ve' vt' rv inn el ee rounds ties vh vn vd v1 v2) {o : Option Nat} (hg : w.grownBy w1 o) (ho : ∀ b, o = some b → some b ∈ X ∧ some b ∉ k.M ve' vrd vt' vr vst ∧ wd.heap.size ≤ b) (hgY : some g ∈ Y) (hY : ∀ b, some b ∈ Y → b < w1.heap.size ∧ (some b ∈ X ∨ w.heap.size ≤ b)) : RndA { k with x := Y } wd ve vrd vt vr vst g w1 ve' vt' rv inn el ee rounds ties vh vn vd v1 v2 := by
 have hk : Keep [o] w w1 := Keep.of_grown hg
 have gl := h.gl
 have gC : k.gC ≤ g := h.gC
 refine ⟨h.st.asideY hk (fun b hb => ?_) hY, hk.box h.box (fun hm => ?_), h.keep.trans hk fun b hb hm => ?_, h.m1, h.m2, hgY, h.gM, h.gl, h.gC⟩
 ·obtain ⟨h1, h2, h3⟩ := ho b (List.mem_singleton.1 hb).symm
  exact ⟨h1, h2, by omega⟩
 ·obtain ⟨-, -, h3⟩ := ho g (List.mem_singleton.1 hm).symm
  omega
 ·obtain ⟨-, -, h3⟩ := ho b (List.mem_singleton.1 hm).symm
  omega
theorem RndA.tell2 (h : RndA k wd ve vrd vt vr vst g w ve' vt' rv inn el ee rounds ties vh vn vd v1 v2) (hr : TellR (k.gc + 1) k.gC (k.R w ve' vrd vt' vr vst) ve' vrd vt' k.vl ties' w w1) : ∃ vt2, RndA k wd ve vrd vt vr vst g w1 ve' vt2 rv inn el ee rounds ties' vh vn vd v1 v2 ∧ Keep (k.M ve' vrd vt' vr vst) w w1 ∧ Mv w vt' vt2 := by
 obtain ⟨vt2, h1, h2, h3⟩ := h.st.tell hr
 have hL : ∀ b, some b ∈ [some k.gC, vt'.ownBlock] → some b ∈ k.M ve' vrd vt' vr vst := fun b hb => by
  simp only [List.mem_cons, List.not_mem_nil, or_false] at hb
  simp only [GCn.M, List.mem_cons, List.not_mem_nil, or_false]
  rcases hb with e | e
  ·exact .inl e
  ·exact .inr (.inr (.inr (.inr (.inl e))))
 exact ⟨vt2, h.go h2 hL (Mv.refl _ _) h3 h1, h2.mono fun b _ hb => hL b hb, h3⟩
end
def Fr (k : GCn) (wd : World) (w : World) (ve vrd vt vr vst : Value) : Nat → Prop := fun b => wd.heap.size ≤ b ∧ b < w.heap.size ∧ some b ∉ k.M ve vrd vt vr vst
def RndY (k : GCn) (wd : World) (ve vrd vt vr vst : Value) (g : Nat) (had : List Int) (lost : Int) (rounds : List Rnd) (vh vn vd : Value) (s : Sq RV) (w : World) : Prop := ∃ ve' vt' v1 v2 e o,
 RndA k wd ve vrd vt vr vst g w ve' vt' s.st s.inn s.el s.el rounds s.ties vh vn vd v1 v2 ∧ s.rounds = rounds ++ [⟨had.map bill, bill lost, e, o⟩] ∧ RInts (Fr k wd w ve' vrd vt' vr vst) w v1 e ∧ RInts (Fr k wd w ve' vrd vt' vr vst) w v2 o
theorem RndA.one {k : GCn} {wd w : World} {ve vrd vt vr vst ve' vt' : Value} {g : Nat} {rv : RV} {inn el ee : List Int} {rounds : List Rnd} {ties : List Tie} {vh vn vd v1 v2 : Value} (h : RndA k wd ve vrd vt vr vst g w ve' vt' rv inn el ee rounds ties vh vn vd v1 v2) {x : Int} (hw : (Lit.int .i64 x).wf = true) (u : Value) (o : Nat) :
  RInts (Fr k wd ((w.setCell ⟨g, o, none⟩ u).alloc (.cells #[.int .i64 x] 3)) ve' vrd vt' vr vst) ((w.setCell ⟨g, o, none⟩ u).alloc (.cells #[.int .i64 x] 3)) (.slice (some ⟨w.heap.size, 0, none⟩) 1 1) [x] := by
 have hz : (w.setCell ⟨g, o, none⟩ u).heap.size = w.heap.size := size_setCell' _ _ _
 have h1 : ((w.setCell ⟨g, o, none⟩ u).alloc (.cells #[.int .i64 x] 3)).heap[w.heap.size]? = some (.cells ([x].map (Value.int .i64)).toArray 3 (0, 0)) := by rw [← hz]; exact box_new _ _
 have h2 : Arr .i64 ((w.setCell ⟨g, o, none⟩ u).alloc (.cells #[.int .i64 x] 3)) w.heap.size 3 [x] := h1
 refine h2.all ⟨h.keep.size, by simp [World.setCell], fun hm => ?_⟩ (fun y hy => by rw [List.mem_singleton.1 hy]; exact hw) (by simp) rfl (Nat.le_refl _)
 have := (h.st.low _ hm).2
 omega
end Go.Proofs.YthcbkhfmdginiaaGreat

namespace Go.Proofs.YthcbkhfmdginiaaGreat
open Go Go.RowKit Go.Shelf Limb

theorem Own.rslo {α : Type} {base n : Nat} {e : TypeId} {dec : World → List Value → α → Prop} {w : World} {v : Value} {xs : List α} (h : Own base e n dec w v xs) (hl : xs.length ≤ 140737488355328) : RSl (fun b => v.ownBlock = some b) n dec w v xs := by
 rcases Nat.eq_zero_or_pos xs.length with h0 | h0
 ·have := Own.rsl h hl
  obtain ⟨a, cap, cells, h1, h2, h3, h4, -⟩ := this
  exact ⟨a, cap, cells, h1, h2, h3, h4, .inl (List.eq_nil_of_length_eq_zero h0)⟩
 ·obtain ⟨cells, ⟨h1, h2⟩, h3⟩ := h
  rcases h2 with ⟨-, h2⟩ | ⟨g, cap, cur, rfl, h4, h5, h6, h7, h8, h9⟩
  ·omega
  ·refine ⟨_, cap, cells, rfl, h6, hl, h3, .inr ⟨g, 0, rfl, rfl, fun j u hu => ?_⟩⟩
   have hj : j < xs.length * n := by
    rcases Nat.lt_or_ge j cells.length with h | h
    ·omega
    ·rw [List.getElem?_eq_none h] at hu; cases hu
   rw [← h9, List.getElem?_take_of_lt hj] at hu
   simp only [Array.getElem?_toList] at hu
   simp [World.cell?, h5, hu]
section
variable {k : GCn} {w : World} {ve vrd vt vr vst : Value} {rv : RV} {inn el ee : List Int} {rounds : List Rnd} {ties : List Tie}
theorem GSt.ne2 (h : GSt k w ve vrd vt vr vst rv inn el ee rounds ties) {o1 o2 : Option Nat} {t1 t2 : TypeId} (h1 : (o1, t1) ∈ k.L ve vrd vt vr vst) (h2 : (o2, t2) ∈ k.L ve vrd vt vr vst) (hne : t1 ≠ t2) {b : Nat} (hb : o1 = some b) : o1 ≠ o2 := fun e =>
 hne ((h.typed _ h1 b hb).inj (h.typed _ h2 b (by rw [← e]; exact hb)))
theorem GSt.doPass (h : GSt k w ve vrd vt vr vst rv inn el ee rounds ties) (hC : k.C ≤ 1000) (hV : GVal k.C rv) (hv9 : ∀ p ∈ rv, p.2 ≤ 1000000000) (x n : Int) (hQ : 0 ≤ k.Q ∧ k.Q ≤ n) (hn : 1 ≤ n ∧ n ≤ 1000000000000000) :
  Calls Tryz.prog 128 #[.pointer (some ⟨k.gc, 0, none⟩), .int .i64 x, .int .i64 n] w fun e w' => e = .returned (.tuple #[]) ∧ Own (k.gc + 1) 93 3 (dGRow fun b => b < k.lo) w' vr (rv.map (passG inn k.Q x n)) ∧ Keep [vr.ownBlock] w w' := by
 have hc := (own_box (Below.refl _ w) (size_of_box h.bc) h.bc).2.1
 have hlow := h.low
 have l1 := h.l1
 refine greDoPass (k.gc + 1) (fun b => b < k.lo) (fun b => vst.ownBlock = some b) k.gc k.C vr vst k.Q x n rv inn el w hC hV hv9 hQ hn (hc 1) (hc 2) (hc 4) (Own.rslo h.os (by rw [stL_length]; omega)) h.or ?_ ?_ ?_
 ·intro b hb e
  have := (hlow b (by simp [GCn.M, e])).1
  omega
 ·intro b hb
  rw [← hb]
  exact h.ne2 (t1 := 153) (t2 := 93) (by simp [GCn.L]) (by simp [GCn.L]) (by decide) hb
 ·exact h.ne2 (t1 := 91) (t2 := 93) (by simp [GCn.L]) (by simp [GCn.L]) (by decide) rfl
theorem GSt.first (h : GSt k w ve vrd vt vr vst rv inn el ee rounds ties) {T : Nat → Prop} {v : Value} {am : List Int} (ha : RInts T w v am) (hne : am ≠ []) (hin : ∀ x ∈ am, 0 ≤ x ∧ x < (k.C : Int)) (hs : am.Pairwise (fun a b => a ≤ b)) (hC : k.C ≤ 1000) (hl : LotOf k.lot k.C) (ht : ties.length ≤ 1000000) (hal : am.length ≤ 1000000) :
  Calls Tryz.prog 126 #[.pointer (some ⟨k.gC, 0, none⟩), v] w fun e w' => e = .returned (.int .i64 (firstL k.lot am)) ∧ TellR (k.gc + 1) k.gC (k.R w ve vrd vt vr vst) ve vrd vt k.vl (ties ++ tieL am (firstL k.lot am)) w w' := by
 have hfm := firstL_mem (lot := k.lot) (among := am) (by
  obtain ⟨x, hx⟩ := List.exists_mem_of_ne_nil _ hne
  exact ⟨x, (hl.all x).2 (hin x hx), hx⟩)
 have hfr := hin _ hfm.1
 have := choFirstT (k.gc + 1) (k.R w ve vrd vt vr vst) T _ v k.lot am ties w k.gC ve vrd vt k.vl h.bC (by have := h.l2; omega) h.ot (fun b hb => ⟨hb.1, hb.2.1, fun e => hb.2.2 (by simp [GCn.M, e])⟩) h.lot ha hne (fun x hx => (hl.all x).2 (hin x hx)) (WalkArith.wf_i64 (by omega)) h.big ht hal (by rw [hl.len]; omega)
 rwa [sortI_self hs] at this
theorem GSt.last (h : GSt k w ve vrd vt vr vst rv inn el ee rounds ties) {T : Nat → Prop} {v : Value} {am : List Int} (ha : RInts T w v am) (hne : am ≠ []) (hin : ∀ x ∈ am, 0 ≤ x ∧ x < (k.C : Int)) (hs : am.Pairwise (fun a b => a ≤ b)) (hC : k.C ≤ 1000) (hl : LotOf k.lot k.C) (ht : ties.length ≤ 1000000) (hal : am.length ≤ 1000000) :
  Calls Tryz.prog 129 #[.pointer (some ⟨k.gC, 0, none⟩), v] w fun e w' => e = .returned (.int .i64 (firstL k.lot.reverse am)) ∧ TellR (k.gc + 1) k.gC (k.R w ve vrd vt vr vst) ve vrd vt k.vl (ties ++ tieL am (firstL k.lot.reverse am)) w w' := by
 have hl2 := lot_reverse hl
 have hfm := firstL_mem (lot := k.lot.reverse) (among := am) (by
  obtain ⟨x, hx⟩ := List.exists_mem_of_ne_nil _ hne
  exact ⟨x, (hl2.all x).2 (hin x hx), hx⟩)
 have hfr := hin _ hfm.1
 have := choLastT (k.gc + 1) (k.R w ve vrd vt vr vst) T _ v k.lot am ties w k.gC ve vrd vt k.vl h.bC (by have := h.l2; omega) h.ot (fun b hb => ⟨hb.1, hb.2.1, fun e => hb.2.2 (by simp [GCn.M, e])⟩) h.lot ha hne (fun x hx => (hl.all x).2 (hin x hx)) (WalkArith.wf_i64 (by omega)) h.big ht hal (by rw [hl.len]; omega)
 rwa [sortI_self hs] at this
end
end Go.Proofs.YthcbkhfmdginiaaGreat

namespace Go.Proofs.YthcbkhfmdginiaaGreat
open Go Go.RowKit Go.Shelf Limb

theorem GSt.gro {k : GCn} {w : World} {ve vrd vt vr vst : Value} {rv : RV} {inn el ee : List Int} {rounds : List Rnd} {ties : List Tie} (h : GSt k w ve vrd vt vr vst rv inn el ee rounds ties) (hC : k.C ≤ 1000) (hl : rv.length ≤ 64) : GroR Any k.gc k.C vr vst k.seats k.Q k.votes rv inn el w := by
 have hc := (own_box (Below.refl _ w) (size_of_box h.bc) h.bc).2.1
 exact ⟨⟨hc 2, RSl.mono (fun _ _ _ h => h) (fun _ _ => trivial) (Own.rsl h.os (by rw [stL_length]; omega))⟩, hc 1, hc 3, hc 4, hc 5, RSl.mono (fun _ _ _ hd => dGRow.mono (fun _ _ => trivial) hd) (fun _ _ => trivial) (Own.rsl h.or (by omega))⟩
structure GOk (k : GCn) (rv : RV) (inn el : List Int) (rounds : List Rnd) (ties : List Tie) : Prop where
 c10 : k.C ≤ 10
 val : GVal k.C rv
 v9 : ∀ p ∈ rv, p.2 ≤ 1000000000
 q : 1 ≤ k.Q ∧ k.Q ≤ 1000000000000000
 vo : 0 ≤ k.votes ∧ k.votes ≤ 1000000
 rng : ∀ x ∈ inn, 0 ≤ x ∧ x < (k.C : Int)
 asc : inn.Pairwise (fun a b => a < b)
 apart : ∀ x ∈ inn, x ∉ el
 lot : LotOf k.lot k.C
 elen : el.length ≤ 10
 rlen : rounds.length ≤ 10
 tlen : ties.length ≤ 10
theorem lit1 {W : World} {g : Nat} {e : TypeId} {x : Int} (h : W.heap[g]? = some (.cells #[.int .i64 x] e (0, 0))) (hw : (Lit.int .i64 x).wf = true) : RInts Any W (.slice (some ⟨g, 0, none⟩) 1 1) [x] :=
 litInts (xs := [x]) h (by intro y hy; rw [List.mem_singleton.1 hy]; exact hw) (by simp)
theorem bill1 {lo : Nat} {w : World} {v : Value} {n : Int} (h : OwnX lo 56 3 dRt w v [bill n]) : ∃ g p an mn cn ad md cd, v = .slice (some ⟨g, 0, none⟩) 1 p ∧
  (∀ W, Below w.heap.size w W → W.cell? ⟨g, 0, none⟩ = some (.bool false) ∧ W.cell? ⟨g, 1, none⟩ = some (.slice an mn cn) ∧ W.cell? ⟨g, 2, none⟩ = some (.slice ad md cd)) ∧
  RU (fun b => lo ≤ b ∧ b < w.heap.size) w (.slice an mn cn) (bill n).num ∧ RU (fun b => lo ≤ b ∧ b < w.heap.size) w (.slice ad md cd) (bill n).den := by
 obtain ⟨g, p, c, d, f, rfl, -, hg, -, h0, h1, h2, hd⟩ := Own.at3 h (k := 0) (by simp)
 obtain ⟨an, cn, ad, cd, rfl, rfl, rfl, r1, r2⟩ := hd.open
 exact ⟨g, p, _, _, _, _, _, _, rfl, fun W hW => ⟨(Same.of_below (S := Any) hW).cell trivial h0, (Same.of_below (S := Any) hW).cell trivial h1, (Same.of_below (S := Any) hW).cell trivial h2⟩, r1.mono fun b hb => ⟨hb.1, hb.2.1⟩, r2.mono fun b hb => ⟨hb.1, hb.2.1⟩⟩
def Nb (W0 : World) (g : Nat) (wc : World) : Nat → Prop := fun b => W0.heap.size ≤ b ∧ b < wc.heap.size ∧ b ≠ g
def lenSl : Value → Nat
 | .slice _ n _ => n
 | _ => 0
def RndX (W0 : World) (inn had : List Int) (lost : Int) (s5 s6 : Value) (wc : World) : Prop := ∃ g a n c vh vn vd, s5 = .slice a n c ∧ s6 = .pointer (some ⟨g, 0, none⟩) ∧ W0.heap.size ≤ g ∧
 wc.heap[g]? = some (.cells #[vh, .bool false, vn, vd, .slice none 0 0, .slice none 0 0] 58 (0, 0)) ∧ RInts (Nb W0 g wc) wc (.slice a n c) inn ∧ RRts (Nb W0 g wc) wc vh (had.map bill) ∧
 RU (Nb W0 g wc) wc vn (bill lost).num ∧ RU (Nb W0 g wc) wc vd (bill lost).den ∧ Below W0.heap.size W0 wc
theorem RndX.mk {W0 X W1 W3 W6 : World} {lo1 lo3 lo6 g : Nat} {inn had : List Int} {lost : Int} {a1 : Option Addr} {n1 c1 : Nat} {vh vn vd : Value} (y : W0.heap.size ≤ g)
  (hG : X.heap[g]? = some (.cells #[.slice none 0 0, .bool false, .slice none 0 0, .slice none 0 0, .slice none 0 0, .slice none 0 0] 58 (0, 0))) (hQ : Below W0.heap.size W0 X)
  (o1 : Own lo1 3 1 (dInt .i64) W1 (.slice a1 n1 c1) inn) (e1 : Below W1.heap.size W1 X) (y1 : W0.heap.size ≤ lo1) (z1 : g < lo1 ∨ W1.heap.size ≤ g) (l1 : inn.length ≤ 1000000)
  (o3 : OwnX lo3 56 3 dRt W3 vh (had.map bill)) (e3 : Below W3.heap.size W3 X) (y3 : W0.heap.size ≤ lo3) (z3 : g < lo3 ∨ W3.heap.size ≤ g) (l3 : (had.map bill).length ≤ 1000000)
  (r1 : RU (fun b => lo6 ≤ b ∧ b < W6.heap.size) W6 vn (bill lost).num) (r2 : RU (fun b => lo6 ≤ b ∧ b < W6.heap.size) W6 vd (bill lost).den) (e6 : Below W6.heap.size W6 X) (y6 : W0.heap.size ≤ lo6) (z6 : g < lo6 ∨ W6.heap.size ≤ g) :
  RndX W0 inn had lost (.slice a1 n1 c1) (.pointer (some ⟨g, 0, none⟩)) ((((((X.setCell ⟨g, 0, none⟩ vh).setCell ⟨g, 1, none⟩ (.bool false)).setCell ⟨g, 2, none⟩ vn).setCell ⟨g, 3, none⟩ vd).setCell ⟨g, 4, none⟩ (.slice none 0 0)).setCell ⟨g, 5, none⟩ (.slice none 0 0)) := by
 obtain ⟨wc, hwc⟩ : ∃ W, W = (((((X.setCell ⟨g, 0, none⟩ vh).setCell ⟨g, 1, none⟩ (.bool false)).setCell ⟨g, 2, none⟩ vn).setCell ⟨g, 3, none⟩ vd).setCell ⟨g, 4, none⟩ (.slice none 0 0)).setCell ⟨g, 5, none⟩ (.slice none 0 0) := ⟨_, rfl⟩
 have hg : wc.heap[g]? = some (.cells #[vh, .bool false, vn, vd, .slice none 0 0, .slice none 0 0] 58 (0, 0)) := by
  rw [hwc, heap_setCell_at (heap_setCell_at (heap_setCell_at (heap_setCell_at (heap_setCell_at (heap_setCell_at hG _) _) _) _) _) _]; rfl
 have hsm : Same (fun b => b ≠ g) X wc := by
  rw [hwc]
  exact ((((((Same.refl _ X).setCell (fun h => h rfl) _).setCell (fun h => h rfl) _).setCell (fun h => h rfl) _).setCell (fun h => h rfl) _).setCell (fun h => h rfl) _).setCell (fun h => h rfl) _
 have hbl : Below W0.heap.size W0 wc := by
  rw [hwc]
  exact (((((hQ.setCell (p := ⟨g, 0, none⟩) y _).setCell (p := ⟨g, 1, none⟩) y _).setCell (p := ⟨g, 2, none⟩) y _).setCell (p := ⟨g, 3, none⟩) y _).setCell (p := ⟨g, 4, none⟩) y _).setCell (p := ⟨g, 5, none⟩) y _
 have hsz : wc.heap.size = X.heap.size := by rw [hwc]; simp [World.setCell]
 rw [← hwc]
 have up : ∀ {lo : Nat} {W : World}, W0.heap.size ≤ lo → Below W.heap.size W X → (g < lo ∨ W.heap.size ≤ g) → ∀ b, lo ≤ b ∧ b < W.heap.size → Nb W0 g wc b := fun hy he hz b hb => ⟨by omega, by rw [hsz]; have := he.size; omega, by omega⟩
 have sm : ∀ b, Nb W0 g wc b → b ≠ g := fun b hb => hb.2.2
 have k1 : RInts (Nb W0 g wc) W1 (.slice a1 n1 c1) inn := RSl.mono (fun _ _ _ h => h) (fun b hb => up y1 e1 z1 b hb) (RSl.cut (by omega) (fun _ _ h => h) (Own.rsl o1 (by omega)))
 have k3 : RRts (Nb W0 g wc) W3 vh (had.map bill) := RSl.mono (fun _ _ _ hd => dRt.mono (up y3 e3 z3) hd) (fun b hb => up y3 e3 z3 b hb) (OwnX.rsl famRt (by omega) o3 (by omega))
 have sx : Same (Nb W0 g wc) X wc := fun b hb hs => hsm b hb (sm b hs)
 exact ⟨g, a1, n1, c1, vh, vn, vd, rfl, rfl, y, hg, (k1.same (.of_below e1)).same sx, (k3.same (.of_below e3)).same sx, ((r1.mono (up y6 e6 z6)).same (.of_below e6)).same sx, ((r2.mono (up y6 e6 z6)).same (.of_below e6)).same sx, hbl⟩
set_option maxRecDepth 100000 in
set_option maxHeartbeats 8000000 in
set_option linter.unusedSimpArgs false in
theorem greRound (k : GCn) (seats : Nat) (ve vrd vt vr vst : Value) (rv : RV) (inn el : List Int) (rounds : List Rnd) (ties : List Tie) (w : World) (hok : GOk k rv inn el rounds ties) (hkx : k.x = []) (hse : k.seats = (seats : Int)) (hs10 : seats ≤ 10) (hlt : el.length < seats) (hen : seats ≤ inn.length + el.length) (s2 : Sq RV) (hs2 : step (greR k.C k.Q k.votes) seats k.lot ⟨rv, inn, el, rounds, ties⟩ = s2) (h : GSt k w ve vrd vt vr vst rv inn el el rounds ties) :
  Calls Tryz.prog 63 #[.pointer (some ⟨k.gc, 0, none⟩)] w fun e w' => e = .returned (.tuple #[]) ∧ (∃ ve' vrd' vt', GSt k w' ve' vrd' vt' vr vst s2.st s2.inn s2.el s2.el s2.rounds s2.ties) ∧ Below k.lo w w' := by
 have hH := greHad Any k.gc k.C vr vst k.seats k.Q k.votes rv inn el w (by have := hok.c10; omega) hok.val (by have := hok.q; omega) hok.vo hok.apart (h.gro (by have := hok.c10; omega) hok.val.len)
 have HH := Lib.hid hH; have HG := Lib.hid h; have HK := Lib.hid hok
 clear hH h hok
 go_enter Tryz.func63, Tryz.ntmps63
 go_upto_region 2 with (go_at_call 121; refine HH.out.mono ?_; rintro e w1 ⟨rfl, hA, hb1⟩; have A1 := Lib.hid hA; have B1 := Lib.hid hb1; clear hA hb1)
 have hC := HK.out.c10
 have hgb := HG.out.below B1.out
 obtain ⟨wb, hwb⟩ : ∃ W, W = w1.alloc (.cells #[.slice (some ⟨w.heap.size, 0, none⟩) k.C k.C] 25) := ⟨_, rfl⟩
 rw [← hwb]
 have hbb : Below w1.heap.size w1 wb := by rw [hwb]; exact below_new _ _
 have hGb := hgb.below hbb
 have hAb := A1.out.below hbb
 have hbx : wb.heap[w1.heap.size]? = some (.cells #[.slice (some ⟨w.heap.size, 0, none⟩) k.C k.C] 25 (0, 0)) := by rw [hwb]; exact box_new _ _
 have Bb := Lib.hid (bt B1.out hbb)
 have hfb := fun x => greF_bound HK.out.val (Q := k.Q) (by have := HK.out.q; omega) inn el x
 have hhb : ∀ x ∈ greH k.C k.Q rv inn el, 0 ≤ x ∧ x ≤ 1000000000000000 := fun x hx => by
  obtain ⟨i, hi, rfl⟩ := List.getElem_of_mem hx
  rw [show (greH k.C k.Q rv inn el)[i] = greF k.Q rv inn el i from fl_get hi]
  have h1 := HK.out.val.cntAll inn (i : Int)
  have h2 := HK.out.q
  unfold greF
  split <;> omega
 have hhl : ((greH k.C k.Q rv inn el).map bill).length ≤ 1000000 := by rw [List.length_map, greH, fl_length]; omega
 have hlb : 0 ≤ greL k.C k.Q k.votes rv inn el ∧ greL k.C k.Q k.votes rv inn el ≤ 1000000000000000 := by
  have h1 := greH_take HK.out.val (Q := k.Q) (by have := HK.out.q; omega) (C := k.C) (by omega) inn el (greH k.C k.Q rv inn el).length
  rw [List.take_length] at h1
  have h2 := HK.out.vo
  unfold greL; omega
 have hRh := fun (W : World) (hW : Below wb.heap.size wb W) => (hAb.below hW).all (S := Any) trivial (fun x hx => WalkArith.wf_i64 (by have := hhb x hx; omega)) (by rw [greH, fl_length]; omega) (n := k.C) (cap := k.C) (by rw [greH, fl_length]) (Nat.le_refl _)
 have hIn := fun (W : World) (hW : Below wb.heap.size wb W) => greIn k.gc k.C vst inn el W (by omega) ((hGb.below hW).gro (by omega) HK.out.val.len).st HK.out.asc HK.out.rng
 have hT1 := fun (W : World) (hW : Below wb.heap.size wb W) => greTold Any _ _ W (hRh W hW) (by rw [greH, fl_length]; omega) hhb
 have hT2 := fun (W : World) (v : Value) (hv : RInts Any W v [greL k.C k.Q k.votes rv inn el]) => greTold Any v _ W hv (by simp) (fun x hx => by rw [List.mem_singleton.1 hx]; exact hlb)
 have HIn := Lib.hid hIn; have HT1 := Lib.hid hT1; have HT2 := Lib.hid hT2; have Hhl := Lib.hid hhl; have Hhb := Lib.hid hhb
 have Hlw : Hid ((Lit.int .i64 (greL k.C k.Q k.votes rv inn el)).wf = true) := Lib.hid (WalkArith.wf_i64 (by omega))
 have Hil : Hid (inn.length ≤ 1000000) := Lib.hid (by have h1 := (List.filter_sublist (l := rngI k.C) (p := fun y => inn.contains y)).length_le; rw [filter_all HK.out.asc HK.out.rng, rngI_length] at h1; omega)
 have HS0 : Hid (∀ W : World, Below wb.heap.size wb W → W.cell? ⟨w1.heap.size, 0, none⟩ = some (.slice (some ⟨w.heap.size, 0, none⟩) k.C k.C)) := Lib.hid fun W hW => (own_box hW (size_of_box hbx) hbx).2.1 0
 have HGb := Lib.hid hGb; have HAb := Lib.hid hAb; have Gbx := Lib.hid hbx
 have Q0 : Hid (Below wb.heap.size wb wb.drew) := Lib.hid (Below.drew (Below.refl _ wb))
 clear hgb hwb hbb hGb hAb hbx hfb hhb hhl hRh hIn hT1 hT2 HH
 go_cut [5, 6] from 17 to 27 (fun s5 s6 wc => RndX wb inn (greH k.C k.Q rv inn el) (greL k.C k.Q k.votes rv inn el) s5 s6 wc)
 refine wp_region_L (S := (fun W' : World => W'.cell? ⟨w1.heap.size, 0, none⟩ = some (.slice (some ⟨w.heap.size, 0, none⟩) k.C k.C))) (L := [12]) (by kernel_rfl) (HS0.out _ Q0.out) (fun hHeld => ?_)
 refine tk 0 ?_ rfl hHeld ?_ ?_; rotate_left
 ·intro w hSw; (try dsimp only at hSw); go_simp; try (with_reducible rfl)
 (try simp only [la, lb, lc, ld, lf, lg, lh])
 refine tk 2 ?_ rfl hHeld ?_ ?_; rotate_left
 ·intro w hSw; (try dsimp only at hSw); go_simp; try (with_reducible rfl)
 (try simp only [la, lb, lc, ld, lf, lg, lh])
 refine tk 4 ?_ rfl hHeld ?_ ?_; rotate_left
 ·intro w hSw; (try dsimp only at hSw); go_simp; try (with_reducible rfl)
 (try simp only [la, lb, lc, ld, lf, lg, lh])
 obtain ⟨X0, hX0⟩ : ∃ X, X = wb.drew := ⟨_, rfl⟩
 rw [← hX0] at Q0 ⊢
 have hHeld := HS0.out _ Q0.out
 clear hX0
 refine wpAnyL_three (i := 1) (j := 5) (l := 10) (by kernel_rfl) rfl rfl rfl (fun K hK => ?_) (fun K hK => ?_) (fun K hK => ?_)
 ·
  (go_simp; have y1 : wb.heap.size ≤ X0.heap.size := Q0.out.size; go_at_call 123; refine (HIn.out _ Q0.out).mono ?_; rintro e X1 ⟨v1, rfl, o1, b1⟩; obtain ⟨a1, n1, c1, rfl⟩ := Own.slice o1; have O1 := Lib.hid o1; have D1 := Lib.hid b1; have Q1 := Lib.hid (bt Q0.out b1); clear o1 b1; have E1 := Lib.hid (Below.refl X1.heap.size X1))
  refine hK.out _ _ (HS0.out _ Q1.out) (fun hHeld => ?_)
  clear hK K
  (try simp only [la, lb, lc, ld, lf, lg, lh])
  refine wpAnyL_three (i := 3) (j := 5) (l := 10) (by kernel_rfl) rfl rfl rfl (fun K hK => ?_) (fun K hK => ?_) (fun K hK => ?_)
  ·
   (go_simp; have y3 : wb.heap.size ≤ X1.heap.size := Q1.out.size; go_at_call 124; refine (HT1.out _ Q1.out).mono ?_; rintro e X3 ⟨v3, rfl, o3, b3⟩; obtain ⟨a3, n3, c3, rfl⟩ := Own.slice o3; have O3 := Lib.hid o3; have D3 := Lib.hid b3; have Q3 := Lib.hid (bt Q1.out b3); clear o3 b3; have E1 := Lib.hid (bt E1.out D3.out); have E3 := Lib.hid (Below.refl X3.heap.size X3))
   refine hK.out _ _ (HS0.out _ Q3.out) (fun hHeld => ?_)
   clear hK K
   (try simp only [la, lb, lc, ld, lf, lg, lh])
   refine wpAnyL_two (i := 5) (j := 10) (by kernel_rfl) rfl rfl (fun K hK => ?_) (fun K hK => ?_)
   ·
    go_simp
    refine hK.out _ _ (HS0.out _ (bt Q3.out (below_new _ _))) (fun hHeld => ?_)
    clear hK K
    (try simp only [la, lb, lc, ld, lf, lg, lh])
    obtain ⟨X5, hX5⟩ : ∃ X, X = X3.alloc (.cells #[.int .i64 (greL k.C k.Q k.votes rv inn el)] 3) := ⟨_, rfl⟩
    rw [← hX5]
    have D5 : Hid (Below X3.heap.size X3 X5) := Lib.hid (by rw [hX5]; exact below_new _ _)
    have Q5 := Lib.hid (bt Q3.out D5.out)
    have G5 : Hid (X5.heap[X3.heap.size]? = some (.cells #[.int .i64 (greL k.C k.Q k.votes rv inn el)] 3 (0, 0))) := Lib.hid (by rw [hX5]; exact box_new _ _)
    have E1 := Lib.hid (bt E1.out D5.out)
    have E3 := Lib.hid (bt E3.out D5.out)
    have E5 := Lib.hid (Below.refl X5.heap.size X5)
    have hHeld := HS0.out _ Q5.out
    clear hX5
    refine wpAnyL_two (i := 6) (j := 10) (by kernel_rfl) rfl rfl (fun K hK => ?_) (fun K hK => ?_)
    ·
     (go_simp; have y6 : wb.heap.size ≤ X5.heap.size := Q5.out.size; go_at_call 124; refine (HT2.out _ _ (RInts.same (.of_below E5.out) (lit1 G5.out Hlw.out))).mono ?_; rintro e X6 ⟨v6, rfl, o6, b6⟩; obtain ⟨g6, p6, an, mn, cn, ad, md, cd, rfl, h6, r6n, r6d⟩ := bill1 o6; have N6 := Lib.hid r6n; have M6 := Lib.hid r6d; have H6 := Lib.hid h6; clear r6n r6d h6; have D6 := Lib.hid b6; have Q6 := Lib.hid (bt Q5.out b6); clear o6 b6; have E1 := Lib.hid (bt E1.out D6.out); have E3 := Lib.hid (bt E3.out D6.out); have E5 := Lib.hid (bt E5.out D6.out); have E6 := Lib.hid (Below.refl X6.heap.size X6))
     refine hK.out _ _ (HS0.out _ Q6.out) (fun hHeld => ?_)
     clear hK K
     (try simp only [la, lb, lc, ld, lf, lg, lh])
     refine wpAnyL_hold (S' := (fun W' : World => W'.cell? ⟨w1.heap.size, 0, none⟩ = some (.slice (some ⟨w.heap.size, 0, none⟩) k.C k.C) ∧ W'.cell? ⟨g6, 0, none⟩ = some (.bool false) ∧ W'.cell? ⟨g6, 1, none⟩ = some (.slice an mn cn) ∧ W'.cell? ⟨g6, 2, none⟩ = some (.slice ad md cd))) (fun _ h => h.1) ?_
     have hHeld := And.intro hHeld (H6.out _ E6.out)
     refine tk 7 ?_ rfl hHeld ?_ ?_; rotate_left
     ·intro w hSw; (try dsimp only at hSw); go_simp; try (with_reducible rfl)
     (try simp only [la, lb, lc, ld, lf, lg, lh])
     refine tk 8 ?_ rfl hHeld ?_ ?_; rotate_left
     ·intro w hSw; (try dsimp only at hSw); go_simp; try (with_reducible rfl)
     (try simp only [la, lb, lc, ld, lf, lg, lh])
     refine tk 9 ?_ rfl hHeld ?_ ?_; rotate_left
     ·intro w hSw; (try dsimp only at hSw); go_simp; try (with_reducible rfl)
     (try simp only [la, lb, lc, ld, lf, lg, lh])
     refine wpAnyL_one (i := 10) (by kernel_rfl) rfl (fun K hK => ?_)
     go_simp
     refine hK.out _ _ ⟨HS0.out _ (bt Q6.out (below_new _ _)), H6.out _ (bt E6.out (below_new _ _))⟩ (fun hHeld => ?_)
     clear hK K
     (try simp only [la, lb, lc, ld, lf, lg, lh])
     obtain ⟨X10, hX10⟩ : ∃ X, X = X6.alloc (.cells #[.slice none 0 0, .bool false, .slice none 0 0, .slice none 0 0, .slice none 0 0, .slice none 0 0] 58) := ⟨_, rfl⟩
     rw [← hX10]
     have D10 : Hid (Below X6.heap.size X6 X10) := Lib.hid (by rw [hX10]; exact below_new _ _)
     have Q10 := Lib.hid (bt Q6.out D10.out)
     have G10 : Hid (X10.heap[X6.heap.size]? = some (.cells #[.slice none 0 0, .bool false, .slice none 0 0, .slice none 0 0, .slice none 0 0, .slice none 0 0] 58 (0, 0))) := Lib.hid (by rw [hX10]; exact box_new _ _)
     obtain ⟨g10, hg10⟩ : ∃ g, X6.heap.size = g := ⟨_, rfl⟩
     have y10 : wb.heap.size ≤ g10 := by rw [← hg10]; exact Q6.out.size
     have z1 : X1.heap.size ≤ g10 := by rw [← hg10]; exact E1.out.size
     have z3 : X3.heap.size ≤ g10 := by rw [← hg10]; exact E3.out.size
     have z6 : X6.heap.size ≤ g10 := by rw [← hg10]; exact E6.out.size
     rw [hg10] at G10 ⊢
     clear hg10
     have E1 := Lib.hid (bt E1.out D10.out)
     have E3 := Lib.hid (bt E3.out D10.out)
     have E5 := Lib.hid (bt E5.out D10.out)
     have E6 := Lib.hid (bt E6.out D10.out)
     have E10 := Lib.hid (Below.refl X10.heap.size X10)
     have hHeld := And.intro (HS0.out _ Q10.out) (H6.out _ E6.out)
     clear hX10
     refine tk 11 ?_ rfl hHeld ?_ ?_; rotate_left
     ·intro w hSw; (try dsimp only at hSw); go_simp; try (with_reducible rfl)
     (try simp only [la, lb, lc, ld, lf, lg, lh])
     have g0 := keep_box E10.out G10.out
     obtain ⟨-, gz, gf⟩ := own_box (Below.refl _ _) (size_of_box g0) g0
     have gz0 := gz 0; have gz1 := gz 1; have gz2 := gz 2; have gz3 := gz 3; have gz4 := gz 4; have gz5 := gz 5; have gf0 := gf 0; have gf1 := gf 1; have gf2 := gf 2; have gf3 := gf 3; have gf4 := gf 4; have gf5 := gf 5
     have Gz := Lib.hid g0
     clear gz gf g0
     refine wpAnyL_last (i := 12) (by kernel_rfl) rfl (by kernel_rfl) (fun K hK => ?_)
     go_simp
     refine hK.out _ _ ?_
     clear hK K
     (try simp only [la, lb, lc, ld, lf, lg, lh])
     refine wpAnyL_done (by kernel_rfl) ?_ _
     go_wp2_with fail
     go_meet
     exact RndX.mk y10 Gz.out Q10.out O1.out E1.out y1 (by first | exact .inl z1 | exact .inr z1) Hil.out O3.out E3.out y3 (by first | exact .inl z3 | exact .inr z3) Hhl.out N6.out M6.out E6.out y6 (by first | exact .inl z6 | exact .inr z6)
    ·
     go_simp
     refine hK.out _ _ (HS0.out _ (bt Q5.out (below_new _ _))) (fun hHeld => ?_)
     clear hK K
     (try simp only [la, lb, lc, ld, lf, lg, lh])
     obtain ⟨X10, hX10⟩ : ∃ X, X = X5.alloc (.cells #[.slice none 0 0, .bool false, .slice none 0 0, .slice none 0 0, .slice none 0 0, .slice none 0 0] 58) := ⟨_, rfl⟩
     rw [← hX10]
     have D10 : Hid (Below X5.heap.size X5 X10) := Lib.hid (by rw [hX10]; exact below_new _ _)
     have Q10 := Lib.hid (bt Q5.out D10.out)
     have G10 : Hid (X10.heap[X5.heap.size]? = some (.cells #[.slice none 0 0, .bool false, .slice none 0 0, .slice none 0 0, .slice none 0 0, .slice none 0 0] 58 (0, 0))) := Lib.hid (by rw [hX10]; exact box_new _ _)
     obtain ⟨g10, hg10⟩ : ∃ g, X5.heap.size = g := ⟨_, rfl⟩
     have y10 : wb.heap.size ≤ g10 := by rw [← hg10]; exact Q5.out.size
     have z1 : X1.heap.size ≤ g10 := by rw [← hg10]; exact E1.out.size
     have z3 : X3.heap.size ≤ g10 := by rw [← hg10]; exact E3.out.size
     rw [hg10] at G10 ⊢
     clear hg10
     have E1 := Lib.hid (bt E1.out D10.out)
     have E3 := Lib.hid (bt E3.out D10.out)
     have E5 := Lib.hid (bt E5.out D10.out)
     have E10 := Lib.hid (Below.refl X10.heap.size X10)
     have hHeld := HS0.out _ Q10.out
     clear hX10
     refine wpAnyL_one (i := 6) (by kernel_rfl) rfl (fun K hK => ?_)
     (go_simp; have y6 : wb.heap.size ≤ X10.heap.size := Q10.out.size; have z6 : g10 < X10.heap.size := Nat.lt_of_lt_of_le (size_of_box G10.out) E10.out.size; go_at_call 124; refine (HT2.out _ _ (RInts.same (.of_below E5.out) (lit1 G5.out Hlw.out))).mono ?_; rintro e X6 ⟨v6, rfl, o6, b6⟩; obtain ⟨g6, p6, an, mn, cn, ad, md, cd, rfl, h6, r6n, r6d⟩ := bill1 o6; have N6 := Lib.hid r6n; have M6 := Lib.hid r6d; have H6 := Lib.hid h6; clear r6n r6d h6; have D6 := Lib.hid b6; have Q6 := Lib.hid (bt Q10.out b6); clear o6 b6; have E1 := Lib.hid (bt E1.out D6.out); have E3 := Lib.hid (bt E3.out D6.out); have E5 := Lib.hid (bt E5.out D6.out); have E10 := Lib.hid (bt E10.out D6.out); have E6 := Lib.hid (Below.refl X6.heap.size X6))
     refine hK.out _ _ (HS0.out _ Q6.out) (fun hHeld => ?_)
     clear hK K
     (try simp only [la, lb, lc, ld, lf, lg, lh])
     refine wpAnyL_hold (S' := (fun W' : World => W'.cell? ⟨w1.heap.size, 0, none⟩ = some (.slice (some ⟨w.heap.size, 0, none⟩) k.C k.C) ∧ W'.cell? ⟨g6, 0, none⟩ = some (.bool false) ∧ W'.cell? ⟨g6, 1, none⟩ = some (.slice an mn cn) ∧ W'.cell? ⟨g6, 2, none⟩ = some (.slice ad md cd))) (fun _ h => h.1) ?_
     have hHeld := And.intro hHeld (H6.out _ E6.out)
     refine tk 7 ?_ rfl hHeld ?_ ?_; rotate_left
     ·intro w hSw; (try dsimp only at hSw); go_simp; try (with_reducible rfl)
     (try simp only [la, lb, lc, ld, lf, lg, lh])
     refine tk 8 ?_ rfl hHeld ?_ ?_; rotate_left
     ·intro w hSw; (try dsimp only at hSw); go_simp; try (with_reducible rfl)
     (try simp only [la, lb, lc, ld, lf, lg, lh])
     refine tk 9 ?_ rfl hHeld ?_ ?_; rotate_left
     ·intro w hSw; (try dsimp only at hSw); go_simp; try (with_reducible rfl)
     (try simp only [la, lb, lc, ld, lf, lg, lh])
     refine tk 11 ?_ rfl hHeld ?_ ?_; rotate_left
     ·intro w hSw; (try dsimp only at hSw); go_simp; try (with_reducible rfl)
     (try simp only [la, lb, lc, ld, lf, lg, lh])
     have g0 := keep_box E10.out G10.out
     obtain ⟨-, gz, gf⟩ := own_box (Below.refl _ _) (size_of_box g0) g0
     have gz0 := gz 0; have gz1 := gz 1; have gz2 := gz 2; have gz3 := gz 3; have gz4 := gz 4; have gz5 := gz 5; have gf0 := gf 0; have gf1 := gf 1; have gf2 := gf 2; have gf3 := gf 3; have gf4 := gf 4; have gf5 := gf 5
     have Gz := Lib.hid g0
     clear gz gf g0
     refine wpAnyL_last (i := 12) (by kernel_rfl) rfl (by kernel_rfl) (fun K hK => ?_)
     go_simp
     refine hK.out _ _ ?_
     clear hK K
     (try simp only [la, lb, lc, ld, lf, lg, lh])
     refine wpAnyL_done (by kernel_rfl) ?_ _
     go_wp2_with fail
     go_meet
     exact RndX.mk y10 Gz.out Q6.out O1.out E1.out y1 (by first | exact .inl z1 | exact .inr z1) Hil.out O3.out E3.out y3 (by first | exact .inl z3 | exact .inr z3) Hhl.out N6.out M6.out E6.out y6 (by first | exact .inl z6 | exact .inr z6)
   ·
    go_simp
    refine hK.out _ _ (HS0.out _ (bt Q3.out (below_new _ _))) (fun hHeld => ?_)
    clear hK K
    (try simp only [la, lb, lc, ld, lf, lg, lh])
    obtain ⟨X10, hX10⟩ : ∃ X, X = X3.alloc (.cells #[.slice none 0 0, .bool false, .slice none 0 0, .slice none 0 0, .slice none 0 0, .slice none 0 0] 58) := ⟨_, rfl⟩
    rw [← hX10]
    have D10 : Hid (Below X3.heap.size X3 X10) := Lib.hid (by rw [hX10]; exact below_new _ _)
    have Q10 := Lib.hid (bt Q3.out D10.out)
    have G10 : Hid (X10.heap[X3.heap.size]? = some (.cells #[.slice none 0 0, .bool false, .slice none 0 0, .slice none 0 0, .slice none 0 0, .slice none 0 0] 58 (0, 0))) := Lib.hid (by rw [hX10]; exact box_new _ _)
    obtain ⟨g10, hg10⟩ : ∃ g, X3.heap.size = g := ⟨_, rfl⟩
    have y10 : wb.heap.size ≤ g10 := by rw [← hg10]; exact Q3.out.size
    have z1 : X1.heap.size ≤ g10 := by rw [← hg10]; exact E1.out.size
    have z3 : X3.heap.size ≤ g10 := by rw [← hg10]; exact E3.out.size
    rw [hg10] at G10 ⊢
    clear hg10
    have E1 := Lib.hid (bt E1.out D10.out)
    have E3 := Lib.hid (bt E3.out D10.out)
    have E10 := Lib.hid (Below.refl X10.heap.size X10)
    have hHeld := HS0.out _ Q10.out
    clear hX10
    refine wpAnyL_one (i := 5) (by kernel_rfl) rfl (fun K hK => ?_)
    go_simp
    refine hK.out _ _ (HS0.out _ (bt Q10.out (below_new _ _))) (fun hHeld => ?_)
    clear hK K
    (try simp only [la, lb, lc, ld, lf, lg, lh])
    obtain ⟨X5, hX5⟩ : ∃ X, X = X10.alloc (.cells #[.int .i64 (greL k.C k.Q k.votes rv inn el)] 3) := ⟨_, rfl⟩
    rw [← hX5]
    have D5 : Hid (Below X10.heap.size X10 X5) := Lib.hid (by rw [hX5]; exact below_new _ _)
    have Q5 := Lib.hid (bt Q10.out D5.out)
    have G5 : Hid (X5.heap[X10.heap.size]? = some (.cells #[.int .i64 (greL k.C k.Q k.votes rv inn el)] 3 (0, 0))) := Lib.hid (by rw [hX5]; exact box_new _ _)
    have E1 := Lib.hid (bt E1.out D5.out)
    have E3 := Lib.hid (bt E3.out D5.out)
    have E10 := Lib.hid (bt E10.out D5.out)
    have E5 := Lib.hid (Below.refl X5.heap.size X5)
    have hHeld := HS0.out _ Q5.out
    clear hX5
    refine wpAnyL_one (i := 6) (by kernel_rfl) rfl (fun K hK => ?_)
    (go_simp; have y6 : wb.heap.size ≤ X5.heap.size := Q5.out.size; have z6 : g10 < X5.heap.size := Nat.lt_of_lt_of_le (size_of_box G10.out) E10.out.size; go_at_call 124; refine (HT2.out _ _ (RInts.same (.of_below E5.out) (lit1 G5.out Hlw.out))).mono ?_; rintro e X6 ⟨v6, rfl, o6, b6⟩; obtain ⟨g6, p6, an, mn, cn, ad, md, cd, rfl, h6, r6n, r6d⟩ := bill1 o6; have N6 := Lib.hid r6n; have M6 := Lib.hid r6d; have H6 := Lib.hid h6; clear r6n r6d h6; have D6 := Lib.hid b6; have Q6 := Lib.hid (bt Q5.out b6); clear o6 b6; have E1 := Lib.hid (bt E1.out D6.out); have E3 := Lib.hid (bt E3.out D6.out); have E5 := Lib.hid (bt E5.out D6.out); have E10 := Lib.hid (bt E10.out D6.out); have E6 := Lib.hid (Below.refl X6.heap.size X6))
    refine hK.out _ _ (HS0.out _ Q6.out) (fun hHeld => ?_)
    clear hK K
    (try simp only [la, lb, lc, ld, lf, lg, lh])
    refine wpAnyL_hold (S' := (fun W' : World => W'.cell? ⟨w1.heap.size, 0, none⟩ = some (.slice (some ⟨w.heap.size, 0, none⟩) k.C k.C) ∧ W'.cell? ⟨g6, 0, none⟩ = some (.bool false) ∧ W'.cell? ⟨g6, 1, none⟩ = some (.slice an mn cn) ∧ W'.cell? ⟨g6, 2, none⟩ = some (.slice ad md cd))) (fun _ h => h.1) ?_
    have hHeld := And.intro hHeld (H6.out _ E6.out)
    refine tk 7 ?_ rfl hHeld ?_ ?_; rotate_left
    ·intro w hSw; (try dsimp only at hSw); go_simp; try (with_reducible rfl)
    (try simp only [la, lb, lc, ld, lf, lg, lh])
    refine tk 8 ?_ rfl hHeld ?_ ?_; rotate_left
    ·intro w hSw; (try dsimp only at hSw); go_simp; try (with_reducible rfl)
    (try simp only [la, lb, lc, ld, lf, lg, lh])
    refine tk 9 ?_ rfl hHeld ?_ ?_; rotate_left
    ·intro w hSw; (try dsimp only at hSw); go_simp; try (with_reducible rfl)
    (try simp only [la, lb, lc, ld, lf, lg, lh])
    refine tk 11 ?_ rfl hHeld ?_ ?_; rotate_left
    ·intro w hSw; (try dsimp only at hSw); go_simp; try (with_reducible rfl)
    (try simp only [la, lb, lc, ld, lf, lg, lh])
    have g0 := keep_box E10.out G10.out
    obtain ⟨-, gz, gf⟩ := own_box (Below.refl _ _) (size_of_box g0) g0
    have gz0 := gz 0; have gz1 := gz 1; have gz2 := gz 2; have gz3 := gz 3; have gz4 := gz 4; have gz5 := gz 5; have gf0 := gf 0; have gf1 := gf 1; have gf2 := gf 2; have gf3 := gf 3; have gf4 := gf 4; have gf5 := gf 5
    have Gz := Lib.hid g0
    clear gz gf g0
    refine wpAnyL_last (i := 12) (by kernel_rfl) rfl (by kernel_rfl) (fun K hK => ?_)
    go_simp
    refine hK.out _ _ ?_
    clear hK K
    (try simp only [la, lb, lc, ld, lf, lg, lh])
    refine wpAnyL_done (by kernel_rfl) ?_ _
    go_wp2_with fail
    go_meet
    exact RndX.mk y10 Gz.out Q6.out O1.out E1.out y1 (by first | exact .inl z1 | exact .inr z1) Hil.out O3.out E3.out y3 (by first | exact .inl z3 | exact .inr z3) Hhl.out N6.out M6.out E6.out y6 (by first | exact .inl z6 | exact .inr z6)
  ·
   go_simp
   refine hK.out _ _ (HS0.out _ (bt Q1.out (below_new _ _))) (fun hHeld => ?_)
   clear hK K
   (try simp only [la, lb, lc, ld, lf, lg, lh])
   obtain ⟨X5, hX5⟩ : ∃ X, X = X1.alloc (.cells #[.int .i64 (greL k.C k.Q k.votes rv inn el)] 3) := ⟨_, rfl⟩
   rw [← hX5]
   have D5 : Hid (Below X1.heap.size X1 X5) := Lib.hid (by rw [hX5]; exact below_new _ _)
   have Q5 := Lib.hid (bt Q1.out D5.out)
   have G5 : Hid (X5.heap[X1.heap.size]? = some (.cells #[.int .i64 (greL k.C k.Q k.votes rv inn el)] 3 (0, 0))) := Lib.hid (by rw [hX5]; exact box_new _ _)
   have E1 := Lib.hid (bt E1.out D5.out)
   have E5 := Lib.hid (Below.refl X5.heap.size X5)
   have hHeld := HS0.out _ Q5.out
   clear hX5
   refine wpAnyL_two (i := 3) (j := 10) (by kernel_rfl) rfl rfl (fun K hK => ?_) (fun K hK => ?_)
   ·
    (go_simp; have y3 : wb.heap.size ≤ X5.heap.size := Q5.out.size; go_at_call 124; refine (HT1.out _ Q5.out).mono ?_; rintro e X3 ⟨v3, rfl, o3, b3⟩; obtain ⟨a3, n3, c3, rfl⟩ := Own.slice o3; have O3 := Lib.hid o3; have D3 := Lib.hid b3; have Q3 := Lib.hid (bt Q5.out b3); clear o3 b3; have E1 := Lib.hid (bt E1.out D3.out); have E5 := Lib.hid (bt E5.out D3.out); have E3 := Lib.hid (Below.refl X3.heap.size X3))
    refine hK.out _ _ (HS0.out _ Q3.out) (fun hHeld => ?_)
    clear hK K
    (try simp only [la, lb, lc, ld, lf, lg, lh])
    refine wpAnyL_two (i := 6) (j := 10) (by kernel_rfl) rfl rfl (fun K hK => ?_) (fun K hK => ?_)
    ·
     (go_simp; have y6 : wb.heap.size ≤ X3.heap.size := Q3.out.size; go_at_call 124; refine (HT2.out _ _ (RInts.same (.of_below E5.out) (lit1 G5.out Hlw.out))).mono ?_; rintro e X6 ⟨v6, rfl, o6, b6⟩; obtain ⟨g6, p6, an, mn, cn, ad, md, cd, rfl, h6, r6n, r6d⟩ := bill1 o6; have N6 := Lib.hid r6n; have M6 := Lib.hid r6d; have H6 := Lib.hid h6; clear r6n r6d h6; have D6 := Lib.hid b6; have Q6 := Lib.hid (bt Q3.out b6); clear o6 b6; have E1 := Lib.hid (bt E1.out D6.out); have E3 := Lib.hid (bt E3.out D6.out); have E5 := Lib.hid (bt E5.out D6.out); have E6 := Lib.hid (Below.refl X6.heap.size X6))
     refine hK.out _ _ (HS0.out _ Q6.out) (fun hHeld => ?_)
     clear hK K
     (try simp only [la, lb, lc, ld, lf, lg, lh])
     refine wpAnyL_hold (S' := (fun W' : World => W'.cell? ⟨w1.heap.size, 0, none⟩ = some (.slice (some ⟨w.heap.size, 0, none⟩) k.C k.C) ∧ W'.cell? ⟨g6, 0, none⟩ = some (.bool false) ∧ W'.cell? ⟨g6, 1, none⟩ = some (.slice an mn cn) ∧ W'.cell? ⟨g6, 2, none⟩ = some (.slice ad md cd))) (fun _ h => h.1) ?_
     have hHeld := And.intro hHeld (H6.out _ E6.out)
     refine tk 7 ?_ rfl hHeld ?_ ?_; rotate_left
     ·intro w hSw; (try dsimp only at hSw); go_simp; try (with_reducible rfl)
     (try simp only [la, lb, lc, ld, lf, lg, lh])
     refine tk 8 ?_ rfl hHeld ?_ ?_; rotate_left
     ·intro w hSw; (try dsimp only at hSw); go_simp; try (with_reducible rfl)
     (try simp only [la, lb, lc, ld, lf, lg, lh])
     refine tk 9 ?_ rfl hHeld ?_ ?_; rotate_left
     ·intro w hSw; (try dsimp only at hSw); go_simp; try (with_reducible rfl)
     (try simp only [la, lb, lc, ld, lf, lg, lh])
     refine wpAnyL_one (i := 10) (by kernel_rfl) rfl (fun K hK => ?_)
     go_simp
     refine hK.out _ _ ⟨HS0.out _ (bt Q6.out (below_new _ _)), H6.out _ (bt E6.out (below_new _ _))⟩ (fun hHeld => ?_)
     clear hK K
     (try simp only [la, lb, lc, ld, lf, lg, lh])
     obtain ⟨X10, hX10⟩ : ∃ X, X = X6.alloc (.cells #[.slice none 0 0, .bool false, .slice none 0 0, .slice none 0 0, .slice none 0 0, .slice none 0 0] 58) := ⟨_, rfl⟩
     rw [← hX10]
     have D10 : Hid (Below X6.heap.size X6 X10) := Lib.hid (by rw [hX10]; exact below_new _ _)
     have Q10 := Lib.hid (bt Q6.out D10.out)
     have G10 : Hid (X10.heap[X6.heap.size]? = some (.cells #[.slice none 0 0, .bool false, .slice none 0 0, .slice none 0 0, .slice none 0 0, .slice none 0 0] 58 (0, 0))) := Lib.hid (by rw [hX10]; exact box_new _ _)
     obtain ⟨g10, hg10⟩ : ∃ g, X6.heap.size = g := ⟨_, rfl⟩
     have y10 : wb.heap.size ≤ g10 := by rw [← hg10]; exact Q6.out.size
     have z1 : X1.heap.size ≤ g10 := by rw [← hg10]; exact E1.out.size
     have z3 : X3.heap.size ≤ g10 := by rw [← hg10]; exact E3.out.size
     have z6 : X6.heap.size ≤ g10 := by rw [← hg10]; exact E6.out.size
     rw [hg10] at G10 ⊢
     clear hg10
     have E1 := Lib.hid (bt E1.out D10.out)
     have E3 := Lib.hid (bt E3.out D10.out)
     have E5 := Lib.hid (bt E5.out D10.out)
     have E6 := Lib.hid (bt E6.out D10.out)
     have E10 := Lib.hid (Below.refl X10.heap.size X10)
     have hHeld := And.intro (HS0.out _ Q10.out) (H6.out _ E6.out)
     clear hX10
     refine tk 11 ?_ rfl hHeld ?_ ?_; rotate_left
     ·intro w hSw; (try dsimp only at hSw); go_simp; try (with_reducible rfl)
     (try simp only [la, lb, lc, ld, lf, lg, lh])
     have g0 := keep_box E10.out G10.out
     obtain ⟨-, gz, gf⟩ := own_box (Below.refl _ _) (size_of_box g0) g0
     have gz0 := gz 0; have gz1 := gz 1; have gz2 := gz 2; have gz3 := gz 3; have gz4 := gz 4; have gz5 := gz 5; have gf0 := gf 0; have gf1 := gf 1; have gf2 := gf 2; have gf3 := gf 3; have gf4 := gf 4; have gf5 := gf 5
     have Gz := Lib.hid g0
     clear gz gf g0
     refine wpAnyL_last (i := 12) (by kernel_rfl) rfl (by kernel_rfl) (fun K hK => ?_)
     go_simp
     refine hK.out _ _ ?_
     clear hK K
     (try simp only [la, lb, lc, ld, lf, lg, lh])
     refine wpAnyL_done (by kernel_rfl) ?_ _
     go_wp2_with fail
     go_meet
     exact RndX.mk y10 Gz.out Q10.out O1.out E1.out y1 (by first | exact .inl z1 | exact .inr z1) Hil.out O3.out E3.out y3 (by first | exact .inl z3 | exact .inr z3) Hhl.out N6.out M6.out E6.out y6 (by first | exact .inl z6 | exact .inr z6)
    ·
     go_simp
     refine hK.out _ _ (HS0.out _ (bt Q3.out (below_new _ _))) (fun hHeld => ?_)
     clear hK K
     (try simp only [la, lb, lc, ld, lf, lg, lh])
     obtain ⟨X10, hX10⟩ : ∃ X, X = X3.alloc (.cells #[.slice none 0 0, .bool false, .slice none 0 0, .slice none 0 0, .slice none 0 0, .slice none 0 0] 58) := ⟨_, rfl⟩
     rw [← hX10]
     have D10 : Hid (Below X3.heap.size X3 X10) := Lib.hid (by rw [hX10]; exact below_new _ _)
     have Q10 := Lib.hid (bt Q3.out D10.out)
     have G10 : Hid (X10.heap[X3.heap.size]? = some (.cells #[.slice none 0 0, .bool false, .slice none 0 0, .slice none 0 0, .slice none 0 0, .slice none 0 0] 58 (0, 0))) := Lib.hid (by rw [hX10]; exact box_new _ _)
     obtain ⟨g10, hg10⟩ : ∃ g, X3.heap.size = g := ⟨_, rfl⟩
     have y10 : wb.heap.size ≤ g10 := by rw [← hg10]; exact Q3.out.size
     have z1 : X1.heap.size ≤ g10 := by rw [← hg10]; exact E1.out.size
     have z3 : X3.heap.size ≤ g10 := by rw [← hg10]; exact E3.out.size
     rw [hg10] at G10 ⊢
     clear hg10
     have E1 := Lib.hid (bt E1.out D10.out)
     have E3 := Lib.hid (bt E3.out D10.out)
     have E5 := Lib.hid (bt E5.out D10.out)
     have E10 := Lib.hid (Below.refl X10.heap.size X10)
     have hHeld := HS0.out _ Q10.out
     clear hX10
     refine wpAnyL_one (i := 6) (by kernel_rfl) rfl (fun K hK => ?_)
     (go_simp; have y6 : wb.heap.size ≤ X10.heap.size := Q10.out.size; have z6 : g10 < X10.heap.size := Nat.lt_of_lt_of_le (size_of_box G10.out) E10.out.size; go_at_call 124; refine (HT2.out _ _ (RInts.same (.of_below E5.out) (lit1 G5.out Hlw.out))).mono ?_; rintro e X6 ⟨v6, rfl, o6, b6⟩; obtain ⟨g6, p6, an, mn, cn, ad, md, cd, rfl, h6, r6n, r6d⟩ := bill1 o6; have N6 := Lib.hid r6n; have M6 := Lib.hid r6d; have H6 := Lib.hid h6; clear r6n r6d h6; have D6 := Lib.hid b6; have Q6 := Lib.hid (bt Q10.out b6); clear o6 b6; have E1 := Lib.hid (bt E1.out D6.out); have E3 := Lib.hid (bt E3.out D6.out); have E5 := Lib.hid (bt E5.out D6.out); have E10 := Lib.hid (bt E10.out D6.out); have E6 := Lib.hid (Below.refl X6.heap.size X6))
     refine hK.out _ _ (HS0.out _ Q6.out) (fun hHeld => ?_)
     clear hK K
     (try simp only [la, lb, lc, ld, lf, lg, lh])
     refine wpAnyL_hold (S' := (fun W' : World => W'.cell? ⟨w1.heap.size, 0, none⟩ = some (.slice (some ⟨w.heap.size, 0, none⟩) k.C k.C) ∧ W'.cell? ⟨g6, 0, none⟩ = some (.bool false) ∧ W'.cell? ⟨g6, 1, none⟩ = some (.slice an mn cn) ∧ W'.cell? ⟨g6, 2, none⟩ = some (.slice ad md cd))) (fun _ h => h.1) ?_
     have hHeld := And.intro hHeld (H6.out _ E6.out)
     refine tk 7 ?_ rfl hHeld ?_ ?_; rotate_left
     ·intro w hSw; (try dsimp only at hSw); go_simp; try (with_reducible rfl)
     (try simp only [la, lb, lc, ld, lf, lg, lh])
     refine tk 8 ?_ rfl hHeld ?_ ?_; rotate_left
     ·intro w hSw; (try dsimp only at hSw); go_simp; try (with_reducible rfl)
     (try simp only [la, lb, lc, ld, lf, lg, lh])
     refine tk 9 ?_ rfl hHeld ?_ ?_; rotate_left
     ·intro w hSw; (try dsimp only at hSw); go_simp; try (with_reducible rfl)
     (try simp only [la, lb, lc, ld, lf, lg, lh])
     refine tk 11 ?_ rfl hHeld ?_ ?_; rotate_left
     ·intro w hSw; (try dsimp only at hSw); go_simp; try (with_reducible rfl)
     (try simp only [la, lb, lc, ld, lf, lg, lh])
     have g0 := keep_box E10.out G10.out
     obtain ⟨-, gz, gf⟩ := own_box (Below.refl _ _) (size_of_box g0) g0
     have gz0 := gz 0; have gz1 := gz 1; have gz2 := gz 2; have gz3 := gz 3; have gz4 := gz 4; have gz5 := gz 5; have gf0 := gf 0; have gf1 := gf 1; have gf2 := gf 2; have gf3 := gf 3; have gf4 := gf 4; have gf5 := gf 5
     have Gz := Lib.hid g0
     clear gz gf g0
     refine wpAnyL_last (i := 12) (by kernel_rfl) rfl (by kernel_rfl) (fun K hK => ?_)
     go_simp
     refine hK.out _ _ ?_
     clear hK K
     (try simp only [la, lb, lc, ld, lf, lg, lh])
     refine wpAnyL_done (by kernel_rfl) ?_ _
     go_wp2_with fail
     go_meet
     exact RndX.mk y10 Gz.out Q6.out O1.out E1.out y1 (by first | exact .inl z1 | exact .inr z1) Hil.out O3.out E3.out y3 (by first | exact .inl z3 | exact .inr z3) Hhl.out N6.out M6.out E6.out y6 (by first | exact .inl z6 | exact .inr z6)
   ·
    go_simp
    refine hK.out _ _ (HS0.out _ (bt Q5.out (below_new _ _))) (fun hHeld => ?_)
    clear hK K
    (try simp only [la, lb, lc, ld, lf, lg, lh])
    obtain ⟨X10, hX10⟩ : ∃ X, X = X5.alloc (.cells #[.slice none 0 0, .bool false, .slice none 0 0, .slice none 0 0, .slice none 0 0, .slice none 0 0] 58) := ⟨_, rfl⟩
    rw [← hX10]
    have D10 : Hid (Below X5.heap.size X5 X10) := Lib.hid (by rw [hX10]; exact below_new _ _)
    have Q10 := Lib.hid (bt Q5.out D10.out)
    have G10 : Hid (X10.heap[X5.heap.size]? = some (.cells #[.slice none 0 0, .bool false, .slice none 0 0, .slice none 0 0, .slice none 0 0, .slice none 0 0] 58 (0, 0))) := Lib.hid (by rw [hX10]; exact box_new _ _)
    obtain ⟨g10, hg10⟩ : ∃ g, X5.heap.size = g := ⟨_, rfl⟩
    have y10 : wb.heap.size ≤ g10 := by rw [← hg10]; exact Q5.out.size
    have z1 : X1.heap.size ≤ g10 := by rw [← hg10]; exact E1.out.size
    rw [hg10] at G10 ⊢
    clear hg10
    have E1 := Lib.hid (bt E1.out D10.out)
    have E5 := Lib.hid (bt E5.out D10.out)
    have E10 := Lib.hid (Below.refl X10.heap.size X10)
    have hHeld := HS0.out _ Q10.out
    clear hX10
    refine wpAnyL_one (i := 3) (by kernel_rfl) rfl (fun K hK => ?_)
    (go_simp; have y3 : wb.heap.size ≤ X10.heap.size := Q10.out.size; have z3 : g10 < X10.heap.size := Nat.lt_of_lt_of_le (size_of_box G10.out) E10.out.size; go_at_call 124; refine (HT1.out _ Q10.out).mono ?_; rintro e X3 ⟨v3, rfl, o3, b3⟩; obtain ⟨a3, n3, c3, rfl⟩ := Own.slice o3; have O3 := Lib.hid o3; have D3 := Lib.hid b3; have Q3 := Lib.hid (bt Q10.out b3); clear o3 b3; have E1 := Lib.hid (bt E1.out D3.out); have E5 := Lib.hid (bt E5.out D3.out); have E10 := Lib.hid (bt E10.out D3.out); have E3 := Lib.hid (Below.refl X3.heap.size X3))
    refine hK.out _ _ (HS0.out _ Q3.out) (fun hHeld => ?_)
    clear hK K
    (try simp only [la, lb, lc, ld, lf, lg, lh])
    refine wpAnyL_one (i := 6) (by kernel_rfl) rfl (fun K hK => ?_)
    (go_simp; have y6 : wb.heap.size ≤ X3.heap.size := Q3.out.size; have z6 : g10 < X3.heap.size := Nat.lt_of_lt_of_le (size_of_box G10.out) E10.out.size; go_at_call 124; refine (HT2.out _ _ (RInts.same (.of_below E5.out) (lit1 G5.out Hlw.out))).mono ?_; rintro e X6 ⟨v6, rfl, o6, b6⟩; obtain ⟨g6, p6, an, mn, cn, ad, md, cd, rfl, h6, r6n, r6d⟩ := bill1 o6; have N6 := Lib.hid r6n; have M6 := Lib.hid r6d; have H6 := Lib.hid h6; clear r6n r6d h6; have D6 := Lib.hid b6; have Q6 := Lib.hid (bt Q3.out b6); clear o6 b6; have E1 := Lib.hid (bt E1.out D6.out); have E3 := Lib.hid (bt E3.out D6.out); have E5 := Lib.hid (bt E5.out D6.out); have E10 := Lib.hid (bt E10.out D6.out); have E6 := Lib.hid (Below.refl X6.heap.size X6))
    refine hK.out _ _ (HS0.out _ Q6.out) (fun hHeld => ?_)
    clear hK K
    (try simp only [la, lb, lc, ld, lf, lg, lh])
    refine wpAnyL_hold (S' := (fun W' : World => W'.cell? ⟨w1.heap.size, 0, none⟩ = some (.slice (some ⟨w.heap.size, 0, none⟩) k.C k.C) ∧ W'.cell? ⟨g6, 0, none⟩ = some (.bool false) ∧ W'.cell? ⟨g6, 1, none⟩ = some (.slice an mn cn) ∧ W'.cell? ⟨g6, 2, none⟩ = some (.slice ad md cd))) (fun _ h => h.1) ?_
    have hHeld := And.intro hHeld (H6.out _ E6.out)
    refine tk 7 ?_ rfl hHeld ?_ ?_; rotate_left
    ·intro w hSw; (try dsimp only at hSw); go_simp; try (with_reducible rfl)
    (try simp only [la, lb, lc, ld, lf, lg, lh])
    refine tk 8 ?_ rfl hHeld ?_ ?_; rotate_left
    ·intro w hSw; (try dsimp only at hSw); go_simp; try (with_reducible rfl)
    (try simp only [la, lb, lc, ld, lf, lg, lh])
    refine tk 9 ?_ rfl hHeld ?_ ?_; rotate_left
    ·intro w hSw; (try dsimp only at hSw); go_simp; try (with_reducible rfl)
    (try simp only [la, lb, lc, ld, lf, lg, lh])
    refine tk 11 ?_ rfl hHeld ?_ ?_; rotate_left
    ·intro w hSw; (try dsimp only at hSw); go_simp; try (with_reducible rfl)
    (try simp only [la, lb, lc, ld, lf, lg, lh])
    have g0 := keep_box E10.out G10.out
    obtain ⟨-, gz, gf⟩ := own_box (Below.refl _ _) (size_of_box g0) g0
    have gz0 := gz 0; have gz1 := gz 1; have gz2 := gz 2; have gz3 := gz 3; have gz4 := gz 4; have gz5 := gz 5; have gf0 := gf 0; have gf1 := gf 1; have gf2 := gf 2; have gf3 := gf 3; have gf4 := gf 4; have gf5 := gf 5
    have Gz := Lib.hid g0
    clear gz gf g0
    refine wpAnyL_last (i := 12) (by kernel_rfl) rfl (by kernel_rfl) (fun K hK => ?_)
    go_simp
    refine hK.out _ _ ?_
    clear hK K
    (try simp only [la, lb, lc, ld, lf, lg, lh])
    refine wpAnyL_done (by kernel_rfl) ?_ _
    go_wp2_with fail
    go_meet
    exact RndX.mk y10 Gz.out Q6.out O1.out E1.out y1 (by first | exact .inl z1 | exact .inr z1) Hil.out O3.out E3.out y3 (by first | exact .inl z3 | exact .inr z3) Hhl.out N6.out M6.out E6.out y6 (by first | exact .inl z6 | exact .inr z6)
  ·
   go_simp
   refine hK.out _ _ (HS0.out _ (bt Q1.out (below_new _ _))) (fun hHeld => ?_)
   clear hK K
   (try simp only [la, lb, lc, ld, lf, lg, lh])
   obtain ⟨X10, hX10⟩ : ∃ X, X = X1.alloc (.cells #[.slice none 0 0, .bool false, .slice none 0 0, .slice none 0 0, .slice none 0 0, .slice none 0 0] 58) := ⟨_, rfl⟩
   rw [← hX10]
   have D10 : Hid (Below X1.heap.size X1 X10) := Lib.hid (by rw [hX10]; exact below_new _ _)
   have Q10 := Lib.hid (bt Q1.out D10.out)
   have G10 : Hid (X10.heap[X1.heap.size]? = some (.cells #[.slice none 0 0, .bool false, .slice none 0 0, .slice none 0 0, .slice none 0 0, .slice none 0 0] 58 (0, 0))) := Lib.hid (by rw [hX10]; exact box_new _ _)
   obtain ⟨g10, hg10⟩ : ∃ g, X1.heap.size = g := ⟨_, rfl⟩
   have y10 : wb.heap.size ≤ g10 := by rw [← hg10]; exact Q1.out.size
   have z1 : X1.heap.size ≤ g10 := by rw [← hg10]; exact E1.out.size
   rw [hg10] at G10 ⊢
   clear hg10
   have E1 := Lib.hid (bt E1.out D10.out)
   have E10 := Lib.hid (Below.refl X10.heap.size X10)
   have hHeld := HS0.out _ Q10.out
   clear hX10
   refine wpAnyL_two (i := 3) (j := 5) (by kernel_rfl) rfl rfl (fun K hK => ?_) (fun K hK => ?_)
   ·
    (go_simp; have y3 : wb.heap.size ≤ X10.heap.size := Q10.out.size; have z3 : g10 < X10.heap.size := Nat.lt_of_lt_of_le (size_of_box G10.out) E10.out.size; go_at_call 124; refine (HT1.out _ Q10.out).mono ?_; rintro e X3 ⟨v3, rfl, o3, b3⟩; obtain ⟨a3, n3, c3, rfl⟩ := Own.slice o3; have O3 := Lib.hid o3; have D3 := Lib.hid b3; have Q3 := Lib.hid (bt Q10.out b3); clear o3 b3; have E1 := Lib.hid (bt E1.out D3.out); have E10 := Lib.hid (bt E10.out D3.out); have E3 := Lib.hid (Below.refl X3.heap.size X3))
    refine hK.out _ _ (HS0.out _ Q3.out) (fun hHeld => ?_)
    clear hK K
    (try simp only [la, lb, lc, ld, lf, lg, lh])
    refine wpAnyL_one (i := 5) (by kernel_rfl) rfl (fun K hK => ?_)
    go_simp
    refine hK.out _ _ (HS0.out _ (bt Q3.out (below_new _ _))) (fun hHeld => ?_)
    clear hK K
    (try simp only [la, lb, lc, ld, lf, lg, lh])
    obtain ⟨X5, hX5⟩ : ∃ X, X = X3.alloc (.cells #[.int .i64 (greL k.C k.Q k.votes rv inn el)] 3) := ⟨_, rfl⟩
    rw [← hX5]
    have D5 : Hid (Below X3.heap.size X3 X5) := Lib.hid (by rw [hX5]; exact below_new _ _)
    have Q5 := Lib.hid (bt Q3.out D5.out)
    have G5 : Hid (X5.heap[X3.heap.size]? = some (.cells #[.int .i64 (greL k.C k.Q k.votes rv inn el)] 3 (0, 0))) := Lib.hid (by rw [hX5]; exact box_new _ _)
    have E1 := Lib.hid (bt E1.out D5.out)
    have E3 := Lib.hid (bt E3.out D5.out)
    have E10 := Lib.hid (bt E10.out D5.out)
    have E5 := Lib.hid (Below.refl X5.heap.size X5)
    have hHeld := HS0.out _ Q5.out
    clear hX5
    refine wpAnyL_one (i := 6) (by kernel_rfl) rfl (fun K hK => ?_)
    (go_simp; have y6 : wb.heap.size ≤ X5.heap.size := Q5.out.size; have z6 : g10 < X5.heap.size := Nat.lt_of_lt_of_le (size_of_box G10.out) E10.out.size; go_at_call 124; refine (HT2.out _ _ (RInts.same (.of_below E5.out) (lit1 G5.out Hlw.out))).mono ?_; rintro e X6 ⟨v6, rfl, o6, b6⟩; obtain ⟨g6, p6, an, mn, cn, ad, md, cd, rfl, h6, r6n, r6d⟩ := bill1 o6; have N6 := Lib.hid r6n; have M6 := Lib.hid r6d; have H6 := Lib.hid h6; clear r6n r6d h6; have D6 := Lib.hid b6; have Q6 := Lib.hid (bt Q5.out b6); clear o6 b6; have E1 := Lib.hid (bt E1.out D6.out); have E3 := Lib.hid (bt E3.out D6.out); have E5 := Lib.hid (bt E5.out D6.out); have E10 := Lib.hid (bt E10.out D6.out); have E6 := Lib.hid (Below.refl X6.heap.size X6))
    refine hK.out _ _ (HS0.out _ Q6.out) (fun hHeld => ?_)
    clear hK K
    (try simp only [la, lb, lc, ld, lf, lg, lh])
    refine wpAnyL_hold (S' := (fun W' : World => W'.cell? ⟨w1.heap.size, 0, none⟩ = some (.slice (some ⟨w.heap.size, 0, none⟩) k.C k.C) ∧ W'.cell? ⟨g6, 0, none⟩ = some (.bool false) ∧ W'.cell? ⟨g6, 1, none⟩ = some (.slice an mn cn) ∧ W'.cell? ⟨g6, 2, none⟩ = some (.slice ad md cd))) (fun _ h => h.1) ?_
    have hHeld := And.intro hHeld (H6.out _ E6.out)
    refine tk 7 ?_ rfl hHeld ?_ ?_; rotate_left
    ·intro w hSw; (try dsimp only at hSw); go_simp; try (with_reducible rfl)
    (try simp only [la, lb, lc, ld, lf, lg, lh])
    refine tk 8 ?_ rfl hHeld ?_ ?_; rotate_left
    ·intro w hSw; (try dsimp only at hSw); go_simp; try (with_reducible rfl)
    (try simp only [la, lb, lc, ld, lf, lg, lh])
    refine tk 9 ?_ rfl hHeld ?_ ?_; rotate_left
    ·intro w hSw; (try dsimp only at hSw); go_simp; try (with_reducible rfl)
    (try simp only [la, lb, lc, ld, lf, lg, lh])
    refine tk 11 ?_ rfl hHeld ?_ ?_; rotate_left
    ·intro w hSw; (try dsimp only at hSw); go_simp; try (with_reducible rfl)
    (try simp only [la, lb, lc, ld, lf, lg, lh])
    have g0 := keep_box E10.out G10.out
    obtain ⟨-, gz, gf⟩ := own_box (Below.refl _ _) (size_of_box g0) g0
    have gz0 := gz 0; have gz1 := gz 1; have gz2 := gz 2; have gz3 := gz 3; have gz4 := gz 4; have gz5 := gz 5; have gf0 := gf 0; have gf1 := gf 1; have gf2 := gf 2; have gf3 := gf 3; have gf4 := gf 4; have gf5 := gf 5
    have Gz := Lib.hid g0
    clear gz gf g0
    refine wpAnyL_last (i := 12) (by kernel_rfl) rfl (by kernel_rfl) (fun K hK => ?_)
    go_simp
    refine hK.out _ _ ?_
    clear hK K
    (try simp only [la, lb, lc, ld, lf, lg, lh])
    refine wpAnyL_done (by kernel_rfl) ?_ _
    go_wp2_with fail
    go_meet
    exact RndX.mk y10 Gz.out Q6.out O1.out E1.out y1 (by first | exact .inl z1 | exact .inr z1) Hil.out O3.out E3.out y3 (by first | exact .inl z3 | exact .inr z3) Hhl.out N6.out M6.out E6.out y6 (by first | exact .inl z6 | exact .inr z6)
   ·
    go_simp
    refine hK.out _ _ (HS0.out _ (bt Q10.out (below_new _ _))) (fun hHeld => ?_)
    clear hK K
    (try simp only [la, lb, lc, ld, lf, lg, lh])
    obtain ⟨X5, hX5⟩ : ∃ X, X = X10.alloc (.cells #[.int .i64 (greL k.C k.Q k.votes rv inn el)] 3) := ⟨_, rfl⟩
    rw [← hX5]
    have D5 : Hid (Below X10.heap.size X10 X5) := Lib.hid (by rw [hX5]; exact below_new _ _)
    have Q5 := Lib.hid (bt Q10.out D5.out)
    have G5 : Hid (X5.heap[X10.heap.size]? = some (.cells #[.int .i64 (greL k.C k.Q k.votes rv inn el)] 3 (0, 0))) := Lib.hid (by rw [hX5]; exact box_new _ _)
    have E1 := Lib.hid (bt E1.out D5.out)
    have E10 := Lib.hid (bt E10.out D5.out)
    have E5 := Lib.hid (Below.refl X5.heap.size X5)
    have hHeld := HS0.out _ Q5.out
    clear hX5
    refine wpAnyL_one (i := 3) (by kernel_rfl) rfl (fun K hK => ?_)
    (go_simp; have y3 : wb.heap.size ≤ X5.heap.size := Q5.out.size; have z3 : g10 < X5.heap.size := Nat.lt_of_lt_of_le (size_of_box G10.out) E10.out.size; go_at_call 124; refine (HT1.out _ Q5.out).mono ?_; rintro e X3 ⟨v3, rfl, o3, b3⟩; obtain ⟨a3, n3, c3, rfl⟩ := Own.slice o3; have O3 := Lib.hid o3; have D3 := Lib.hid b3; have Q3 := Lib.hid (bt Q5.out b3); clear o3 b3; have E1 := Lib.hid (bt E1.out D3.out); have E5 := Lib.hid (bt E5.out D3.out); have E10 := Lib.hid (bt E10.out D3.out); have E3 := Lib.hid (Below.refl X3.heap.size X3))
    refine hK.out _ _ (HS0.out _ Q3.out) (fun hHeld => ?_)
    clear hK K
    (try simp only [la, lb, lc, ld, lf, lg, lh])
    refine wpAnyL_one (i := 6) (by kernel_rfl) rfl (fun K hK => ?_)
    (go_simp; have y6 : wb.heap.size ≤ X3.heap.size := Q3.out.size; have z6 : g10 < X3.heap.size := Nat.lt_of_lt_of_le (size_of_box G10.out) E10.out.size; go_at_call 124; refine (HT2.out _ _ (RInts.same (.of_below E5.out) (lit1 G5.out Hlw.out))).mono ?_; rintro e X6 ⟨v6, rfl, o6, b6⟩; obtain ⟨g6, p6, an, mn, cn, ad, md, cd, rfl, h6, r6n, r6d⟩ := bill1 o6; have N6 := Lib.hid r6n; have M6 := Lib.hid r6d; have H6 := Lib.hid h6; clear r6n r6d h6; have D6 := Lib.hid b6; have Q6 := Lib.hid (bt Q3.out b6); clear o6 b6; have E1 := Lib.hid (bt E1.out D6.out); have E3 := Lib.hid (bt E3.out D6.out); have E5 := Lib.hid (bt E5.out D6.out); have E10 := Lib.hid (bt E10.out D6.out); have E6 := Lib.hid (Below.refl X6.heap.size X6))
    refine hK.out _ _ (HS0.out _ Q6.out) (fun hHeld => ?_)
    clear hK K
    (try simp only [la, lb, lc, ld, lf, lg, lh])
    refine wpAnyL_hold (S' := (fun W' : World => W'.cell? ⟨w1.heap.size, 0, none⟩ = some (.slice (some ⟨w.heap.size, 0, none⟩) k.C k.C) ∧ W'.cell? ⟨g6, 0, none⟩ = some (.bool false) ∧ W'.cell? ⟨g6, 1, none⟩ = some (.slice an mn cn) ∧ W'.cell? ⟨g6, 2, none⟩ = some (.slice ad md cd))) (fun _ h => h.1) ?_
    have hHeld := And.intro hHeld (H6.out _ E6.out)
    refine tk 7 ?_ rfl hHeld ?_ ?_; rotate_left
    ·intro w hSw; (try dsimp only at hSw); go_simp; try (with_reducible rfl)
    (try simp only [la, lb, lc, ld, lf, lg, lh])
    refine tk 8 ?_ rfl hHeld ?_ ?_; rotate_left
    ·intro w hSw; (try dsimp only at hSw); go_simp; try (with_reducible rfl)
    (try simp only [la, lb, lc, ld, lf, lg, lh])
    refine tk 9 ?_ rfl hHeld ?_ ?_; rotate_left
    ·intro w hSw; (try dsimp only at hSw); go_simp; try (with_reducible rfl)
    (try simp only [la, lb, lc, ld, lf, lg, lh])
    refine tk 11 ?_ rfl hHeld ?_ ?_; rotate_left
    ·intro w hSw; (try dsimp only at hSw); go_simp; try (with_reducible rfl)
    (try simp only [la, lb, lc, ld, lf, lg, lh])
    have g0 := keep_box E10.out G10.out
    obtain ⟨-, gz, gf⟩ := own_box (Below.refl _ _) (size_of_box g0) g0
    have gz0 := gz 0; have gz1 := gz 1; have gz2 := gz 2; have gz3 := gz 3; have gz4 := gz 4; have gz5 := gz 5; have gf0 := gf 0; have gf1 := gf 1; have gf2 := gf 2; have gf3 := gf 3; have gf4 := gf 4; have gf5 := gf 5
    have Gz := Lib.hid g0
    clear gz gf g0
    refine wpAnyL_last (i := 12) (by kernel_rfl) rfl (by kernel_rfl) (fun K hK => ?_)
    go_simp
    refine hK.out _ _ ?_
    clear hK K
    (try simp only [la, lb, lc, ld, lf, lg, lh])
    refine wpAnyL_done (by kernel_rfl) ?_ _
    go_wp2_with fail
    go_meet
    exact RndX.mk y10 Gz.out Q6.out O1.out E1.out y1 (by first | exact .inl z1 | exact .inr z1) Hil.out O3.out E3.out y3 (by first | exact .inl z3 | exact .inr z3) Hhl.out N6.out M6.out E6.out y6 (by first | exact .inl z6 | exact .inr z6)
 ·
  go_simp
  refine hK.out _ _ (HS0.out _ (bt Q0.out (below_new _ _))) (fun hHeld => ?_)
  clear hK K
  (try simp only [la, lb, lc, ld, lf, lg, lh])
  obtain ⟨X5, hX5⟩ : ∃ X, X = X0.alloc (.cells #[.int .i64 (greL k.C k.Q k.votes rv inn el)] 3) := ⟨_, rfl⟩
  rw [← hX5]
  have D5 : Hid (Below X0.heap.size X0 X5) := Lib.hid (by rw [hX5]; exact below_new _ _)
  have Q5 := Lib.hid (bt Q0.out D5.out)
  have G5 : Hid (X5.heap[X0.heap.size]? = some (.cells #[.int .i64 (greL k.C k.Q k.votes rv inn el)] 3 (0, 0))) := Lib.hid (by rw [hX5]; exact box_new _ _)
  have E5 := Lib.hid (Below.refl X5.heap.size X5)
  have hHeld := HS0.out _ Q5.out
  clear hX5
  refine wpAnyL_two (i := 1) (j := 10) (by kernel_rfl) rfl rfl (fun K hK => ?_) (fun K hK => ?_)
  ·
   (go_simp; have y1 : wb.heap.size ≤ X5.heap.size := Q5.out.size; go_at_call 123; refine (HIn.out _ Q5.out).mono ?_; rintro e X1 ⟨v1, rfl, o1, b1⟩; obtain ⟨a1, n1, c1, rfl⟩ := Own.slice o1; have O1 := Lib.hid o1; have D1 := Lib.hid b1; have Q1 := Lib.hid (bt Q5.out b1); clear o1 b1; have E5 := Lib.hid (bt E5.out D1.out); have E1 := Lib.hid (Below.refl X1.heap.size X1))
   refine hK.out _ _ (HS0.out _ Q1.out) (fun hHeld => ?_)
   clear hK K
   (try simp only [la, lb, lc, ld, lf, lg, lh])
   refine wpAnyL_two (i := 3) (j := 10) (by kernel_rfl) rfl rfl (fun K hK => ?_) (fun K hK => ?_)
   ·
    (go_simp; have y3 : wb.heap.size ≤ X1.heap.size := Q1.out.size; go_at_call 124; refine (HT1.out _ Q1.out).mono ?_; rintro e X3 ⟨v3, rfl, o3, b3⟩; obtain ⟨a3, n3, c3, rfl⟩ := Own.slice o3; have O3 := Lib.hid o3; have D3 := Lib.hid b3; have Q3 := Lib.hid (bt Q1.out b3); clear o3 b3; have E1 := Lib.hid (bt E1.out D3.out); have E5 := Lib.hid (bt E5.out D3.out); have E3 := Lib.hid (Below.refl X3.heap.size X3))
    refine hK.out _ _ (HS0.out _ Q3.out) (fun hHeld => ?_)
    clear hK K
    (try simp only [la, lb, lc, ld, lf, lg, lh])
    refine wpAnyL_two (i := 6) (j := 10) (by kernel_rfl) rfl rfl (fun K hK => ?_) (fun K hK => ?_)
    ·
     (go_simp; have y6 : wb.heap.size ≤ X3.heap.size := Q3.out.size; go_at_call 124; refine (HT2.out _ _ (RInts.same (.of_below E5.out) (lit1 G5.out Hlw.out))).mono ?_; rintro e X6 ⟨v6, rfl, o6, b6⟩; obtain ⟨g6, p6, an, mn, cn, ad, md, cd, rfl, h6, r6n, r6d⟩ := bill1 o6; have N6 := Lib.hid r6n; have M6 := Lib.hid r6d; have H6 := Lib.hid h6; clear r6n r6d h6; have D6 := Lib.hid b6; have Q6 := Lib.hid (bt Q3.out b6); clear o6 b6; have E1 := Lib.hid (bt E1.out D6.out); have E3 := Lib.hid (bt E3.out D6.out); have E5 := Lib.hid (bt E5.out D6.out); have E6 := Lib.hid (Below.refl X6.heap.size X6))
     refine hK.out _ _ (HS0.out _ Q6.out) (fun hHeld => ?_)
     clear hK K
     (try simp only [la, lb, lc, ld, lf, lg, lh])
     refine wpAnyL_hold (S' := (fun W' : World => W'.cell? ⟨w1.heap.size, 0, none⟩ = some (.slice (some ⟨w.heap.size, 0, none⟩) k.C k.C) ∧ W'.cell? ⟨g6, 0, none⟩ = some (.bool false) ∧ W'.cell? ⟨g6, 1, none⟩ = some (.slice an mn cn) ∧ W'.cell? ⟨g6, 2, none⟩ = some (.slice ad md cd))) (fun _ h => h.1) ?_
     have hHeld := And.intro hHeld (H6.out _ E6.out)
     refine tk 7 ?_ rfl hHeld ?_ ?_; rotate_left
     ·intro w hSw; (try dsimp only at hSw); go_simp; try (with_reducible rfl)
     (try simp only [la, lb, lc, ld, lf, lg, lh])
     refine tk 8 ?_ rfl hHeld ?_ ?_; rotate_left
     ·intro w hSw; (try dsimp only at hSw); go_simp; try (with_reducible rfl)
     (try simp only [la, lb, lc, ld, lf, lg, lh])
     refine tk 9 ?_ rfl hHeld ?_ ?_; rotate_left
     ·intro w hSw; (try dsimp only at hSw); go_simp; try (with_reducible rfl)
     (try simp only [la, lb, lc, ld, lf, lg, lh])
     refine wpAnyL_one (i := 10) (by kernel_rfl) rfl (fun K hK => ?_)
     go_simp
     refine hK.out _ _ ⟨HS0.out _ (bt Q6.out (below_new _ _)), H6.out _ (bt E6.out (below_new _ _))⟩ (fun hHeld => ?_)
     clear hK K
     (try simp only [la, lb, lc, ld, lf, lg, lh])
     obtain ⟨X10, hX10⟩ : ∃ X, X = X6.alloc (.cells #[.slice none 0 0, .bool false, .slice none 0 0, .slice none 0 0, .slice none 0 0, .slice none 0 0] 58) := ⟨_, rfl⟩
     rw [← hX10]
     have D10 : Hid (Below X6.heap.size X6 X10) := Lib.hid (by rw [hX10]; exact below_new _ _)
     have Q10 := Lib.hid (bt Q6.out D10.out)
     have G10 : Hid (X10.heap[X6.heap.size]? = some (.cells #[.slice none 0 0, .bool false, .slice none 0 0, .slice none 0 0, .slice none 0 0, .slice none 0 0] 58 (0, 0))) := Lib.hid (by rw [hX10]; exact box_new _ _)
     obtain ⟨g10, hg10⟩ : ∃ g, X6.heap.size = g := ⟨_, rfl⟩
     have y10 : wb.heap.size ≤ g10 := by rw [← hg10]; exact Q6.out.size
     have z1 : X1.heap.size ≤ g10 := by rw [← hg10]; exact E1.out.size
     have z3 : X3.heap.size ≤ g10 := by rw [← hg10]; exact E3.out.size
     have z6 : X6.heap.size ≤ g10 := by rw [← hg10]; exact E6.out.size
     rw [hg10] at G10 ⊢
     clear hg10
     have E1 := Lib.hid (bt E1.out D10.out)
     have E3 := Lib.hid (bt E3.out D10.out)
     have E5 := Lib.hid (bt E5.out D10.out)
     have E6 := Lib.hid (bt E6.out D10.out)
     have E10 := Lib.hid (Below.refl X10.heap.size X10)
     have hHeld := And.intro (HS0.out _ Q10.out) (H6.out _ E6.out)
     clear hX10
     refine tk 11 ?_ rfl hHeld ?_ ?_; rotate_left
     ·intro w hSw; (try dsimp only at hSw); go_simp; try (with_reducible rfl)
     (try simp only [la, lb, lc, ld, lf, lg, lh])
     have g0 := keep_box E10.out G10.out
     obtain ⟨-, gz, gf⟩ := own_box (Below.refl _ _) (size_of_box g0) g0
     have gz0 := gz 0; have gz1 := gz 1; have gz2 := gz 2; have gz3 := gz 3; have gz4 := gz 4; have gz5 := gz 5; have gf0 := gf 0; have gf1 := gf 1; have gf2 := gf 2; have gf3 := gf 3; have gf4 := gf 4; have gf5 := gf 5
     have Gz := Lib.hid g0
     clear gz gf g0
     refine wpAnyL_last (i := 12) (by kernel_rfl) rfl (by kernel_rfl) (fun K hK => ?_)
     go_simp
     refine hK.out _ _ ?_
     clear hK K
     (try simp only [la, lb, lc, ld, lf, lg, lh])
     refine wpAnyL_done (by kernel_rfl) ?_ _
     go_wp2_with fail
     go_meet
     exact RndX.mk y10 Gz.out Q10.out O1.out E1.out y1 (by first | exact .inl z1 | exact .inr z1) Hil.out O3.out E3.out y3 (by first | exact .inl z3 | exact .inr z3) Hhl.out N6.out M6.out E6.out y6 (by first | exact .inl z6 | exact .inr z6)
    ·
     go_simp
     refine hK.out _ _ (HS0.out _ (bt Q3.out (below_new _ _))) (fun hHeld => ?_)
     clear hK K
     (try simp only [la, lb, lc, ld, lf, lg, lh])
     obtain ⟨X10, hX10⟩ : ∃ X, X = X3.alloc (.cells #[.slice none 0 0, .bool false, .slice none 0 0, .slice none 0 0, .slice none 0 0, .slice none 0 0] 58) := ⟨_, rfl⟩
     rw [← hX10]
     have D10 : Hid (Below X3.heap.size X3 X10) := Lib.hid (by rw [hX10]; exact below_new _ _)
     have Q10 := Lib.hid (bt Q3.out D10.out)
     have G10 : Hid (X10.heap[X3.heap.size]? = some (.cells #[.slice none 0 0, .bool false, .slice none 0 0, .slice none 0 0, .slice none 0 0, .slice none 0 0] 58 (0, 0))) := Lib.hid (by rw [hX10]; exact box_new _ _)
     obtain ⟨g10, hg10⟩ : ∃ g, X3.heap.size = g := ⟨_, rfl⟩
     have y10 : wb.heap.size ≤ g10 := by rw [← hg10]; exact Q3.out.size
     have z1 : X1.heap.size ≤ g10 := by rw [← hg10]; exact E1.out.size
     have z3 : X3.heap.size ≤ g10 := by rw [← hg10]; exact E3.out.size
     rw [hg10] at G10 ⊢
     clear hg10
     have E1 := Lib.hid (bt E1.out D10.out)
     have E3 := Lib.hid (bt E3.out D10.out)
     have E5 := Lib.hid (bt E5.out D10.out)
     have E10 := Lib.hid (Below.refl X10.heap.size X10)
     have hHeld := HS0.out _ Q10.out
     clear hX10
     refine wpAnyL_one (i := 6) (by kernel_rfl) rfl (fun K hK => ?_)
     (go_simp; have y6 : wb.heap.size ≤ X10.heap.size := Q10.out.size; have z6 : g10 < X10.heap.size := Nat.lt_of_lt_of_le (size_of_box G10.out) E10.out.size; go_at_call 124; refine (HT2.out _ _ (RInts.same (.of_below E5.out) (lit1 G5.out Hlw.out))).mono ?_; rintro e X6 ⟨v6, rfl, o6, b6⟩; obtain ⟨g6, p6, an, mn, cn, ad, md, cd, rfl, h6, r6n, r6d⟩ := bill1 o6; have N6 := Lib.hid r6n; have M6 := Lib.hid r6d; have H6 := Lib.hid h6; clear r6n r6d h6; have D6 := Lib.hid b6; have Q6 := Lib.hid (bt Q10.out b6); clear o6 b6; have E1 := Lib.hid (bt E1.out D6.out); have E3 := Lib.hid (bt E3.out D6.out); have E5 := Lib.hid (bt E5.out D6.out); have E10 := Lib.hid (bt E10.out D6.out); have E6 := Lib.hid (Below.refl X6.heap.size X6))
     refine hK.out _ _ (HS0.out _ Q6.out) (fun hHeld => ?_)
     clear hK K
     (try simp only [la, lb, lc, ld, lf, lg, lh])
     refine wpAnyL_hold (S' := (fun W' : World => W'.cell? ⟨w1.heap.size, 0, none⟩ = some (.slice (some ⟨w.heap.size, 0, none⟩) k.C k.C) ∧ W'.cell? ⟨g6, 0, none⟩ = some (.bool false) ∧ W'.cell? ⟨g6, 1, none⟩ = some (.slice an mn cn) ∧ W'.cell? ⟨g6, 2, none⟩ = some (.slice ad md cd))) (fun _ h => h.1) ?_
     have hHeld := And.intro hHeld (H6.out _ E6.out)
     refine tk 7 ?_ rfl hHeld ?_ ?_; rotate_left
     ·intro w hSw; (try dsimp only at hSw); go_simp; try (with_reducible rfl)
     (try simp only [la, lb, lc, ld, lf, lg, lh])
     refine tk 8 ?_ rfl hHeld ?_ ?_; rotate_left
     ·intro w hSw; (try dsimp only at hSw); go_simp; try (with_reducible rfl)
     (try simp only [la, lb, lc, ld, lf, lg, lh])
     refine tk 9 ?_ rfl hHeld ?_ ?_; rotate_left
     ·intro w hSw; (try dsimp only at hSw); go_simp; try (with_reducible rfl)
     (try simp only [la, lb, lc, ld, lf, lg, lh])
     refine tk 11 ?_ rfl hHeld ?_ ?_; rotate_left
     ·intro w hSw; (try dsimp only at hSw); go_simp; try (with_reducible rfl)
     (try simp only [la, lb, lc, ld, lf, lg, lh])
     have g0 := keep_box E10.out G10.out
     obtain ⟨-, gz, gf⟩ := own_box (Below.refl _ _) (size_of_box g0) g0
     have gz0 := gz 0; have gz1 := gz 1; have gz2 := gz 2; have gz3 := gz 3; have gz4 := gz 4; have gz5 := gz 5; have gf0 := gf 0; have gf1 := gf 1; have gf2 := gf 2; have gf3 := gf 3; have gf4 := gf 4; have gf5 := gf 5
     have Gz := Lib.hid g0
     clear gz gf g0
     refine wpAnyL_last (i := 12) (by kernel_rfl) rfl (by kernel_rfl) (fun K hK => ?_)
     go_simp
     refine hK.out _ _ ?_
     clear hK K
     (try simp only [la, lb, lc, ld, lf, lg, lh])
     refine wpAnyL_done (by kernel_rfl) ?_ _
     go_wp2_with fail
     go_meet
     exact RndX.mk y10 Gz.out Q6.out O1.out E1.out y1 (by first | exact .inl z1 | exact .inr z1) Hil.out O3.out E3.out y3 (by first | exact .inl z3 | exact .inr z3) Hhl.out N6.out M6.out E6.out y6 (by first | exact .inl z6 | exact .inr z6)
   ·
    go_simp
    refine hK.out _ _ (HS0.out _ (bt Q1.out (below_new _ _))) (fun hHeld => ?_)
    clear hK K
    (try simp only [la, lb, lc, ld, lf, lg, lh])
    obtain ⟨X10, hX10⟩ : ∃ X, X = X1.alloc (.cells #[.slice none 0 0, .bool false, .slice none 0 0, .slice none 0 0, .slice none 0 0, .slice none 0 0] 58) := ⟨_, rfl⟩
    rw [← hX10]
    have D10 : Hid (Below X1.heap.size X1 X10) := Lib.hid (by rw [hX10]; exact below_new _ _)
    have Q10 := Lib.hid (bt Q1.out D10.out)
    have G10 : Hid (X10.heap[X1.heap.size]? = some (.cells #[.slice none 0 0, .bool false, .slice none 0 0, .slice none 0 0, .slice none 0 0, .slice none 0 0] 58 (0, 0))) := Lib.hid (by rw [hX10]; exact box_new _ _)
    obtain ⟨g10, hg10⟩ : ∃ g, X1.heap.size = g := ⟨_, rfl⟩
    have y10 : wb.heap.size ≤ g10 := by rw [← hg10]; exact Q1.out.size
    have z1 : X1.heap.size ≤ g10 := by rw [← hg10]; exact E1.out.size
    rw [hg10] at G10 ⊢
    clear hg10
    have E1 := Lib.hid (bt E1.out D10.out)
    have E5 := Lib.hid (bt E5.out D10.out)
    have E10 := Lib.hid (Below.refl X10.heap.size X10)
    have hHeld := HS0.out _ Q10.out
    clear hX10
    refine wpAnyL_one (i := 3) (by kernel_rfl) rfl (fun K hK => ?_)
    (go_simp; have y3 : wb.heap.size ≤ X10.heap.size := Q10.out.size; have z3 : g10 < X10.heap.size := Nat.lt_of_lt_of_le (size_of_box G10.out) E10.out.size; go_at_call 124; refine (HT1.out _ Q10.out).mono ?_; rintro e X3 ⟨v3, rfl, o3, b3⟩; obtain ⟨a3, n3, c3, rfl⟩ := Own.slice o3; have O3 := Lib.hid o3; have D3 := Lib.hid b3; have Q3 := Lib.hid (bt Q10.out b3); clear o3 b3; have E1 := Lib.hid (bt E1.out D3.out); have E5 := Lib.hid (bt E5.out D3.out); have E10 := Lib.hid (bt E10.out D3.out); have E3 := Lib.hid (Below.refl X3.heap.size X3))
    refine hK.out _ _ (HS0.out _ Q3.out) (fun hHeld => ?_)
    clear hK K
    (try simp only [la, lb, lc, ld, lf, lg, lh])
    refine wpAnyL_one (i := 6) (by kernel_rfl) rfl (fun K hK => ?_)
    (go_simp; have y6 : wb.heap.size ≤ X3.heap.size := Q3.out.size; have z6 : g10 < X3.heap.size := Nat.lt_of_lt_of_le (size_of_box G10.out) E10.out.size; go_at_call 124; refine (HT2.out _ _ (RInts.same (.of_below E5.out) (lit1 G5.out Hlw.out))).mono ?_; rintro e X6 ⟨v6, rfl, o6, b6⟩; obtain ⟨g6, p6, an, mn, cn, ad, md, cd, rfl, h6, r6n, r6d⟩ := bill1 o6; have N6 := Lib.hid r6n; have M6 := Lib.hid r6d; have H6 := Lib.hid h6; clear r6n r6d h6; have D6 := Lib.hid b6; have Q6 := Lib.hid (bt Q3.out b6); clear o6 b6; have E1 := Lib.hid (bt E1.out D6.out); have E3 := Lib.hid (bt E3.out D6.out); have E5 := Lib.hid (bt E5.out D6.out); have E10 := Lib.hid (bt E10.out D6.out); have E6 := Lib.hid (Below.refl X6.heap.size X6))
    refine hK.out _ _ (HS0.out _ Q6.out) (fun hHeld => ?_)
    clear hK K
    (try simp only [la, lb, lc, ld, lf, lg, lh])
    refine wpAnyL_hold (S' := (fun W' : World => W'.cell? ⟨w1.heap.size, 0, none⟩ = some (.slice (some ⟨w.heap.size, 0, none⟩) k.C k.C) ∧ W'.cell? ⟨g6, 0, none⟩ = some (.bool false) ∧ W'.cell? ⟨g6, 1, none⟩ = some (.slice an mn cn) ∧ W'.cell? ⟨g6, 2, none⟩ = some (.slice ad md cd))) (fun _ h => h.1) ?_
    have hHeld := And.intro hHeld (H6.out _ E6.out)
    refine tk 7 ?_ rfl hHeld ?_ ?_; rotate_left
    ·intro w hSw; (try dsimp only at hSw); go_simp; try (with_reducible rfl)
    (try simp only [la, lb, lc, ld, lf, lg, lh])
    refine tk 8 ?_ rfl hHeld ?_ ?_; rotate_left
    ·intro w hSw; (try dsimp only at hSw); go_simp; try (with_reducible rfl)
    (try simp only [la, lb, lc, ld, lf, lg, lh])
    refine tk 9 ?_ rfl hHeld ?_ ?_; rotate_left
    ·intro w hSw; (try dsimp only at hSw); go_simp; try (with_reducible rfl)
    (try simp only [la, lb, lc, ld, lf, lg, lh])
    refine tk 11 ?_ rfl hHeld ?_ ?_; rotate_left
    ·intro w hSw; (try dsimp only at hSw); go_simp; try (with_reducible rfl)
    (try simp only [la, lb, lc, ld, lf, lg, lh])
    have g0 := keep_box E10.out G10.out
    obtain ⟨-, gz, gf⟩ := own_box (Below.refl _ _) (size_of_box g0) g0
    have gz0 := gz 0; have gz1 := gz 1; have gz2 := gz 2; have gz3 := gz 3; have gz4 := gz 4; have gz5 := gz 5; have gf0 := gf 0; have gf1 := gf 1; have gf2 := gf 2; have gf3 := gf 3; have gf4 := gf 4; have gf5 := gf 5
    have Gz := Lib.hid g0
    clear gz gf g0
    refine wpAnyL_last (i := 12) (by kernel_rfl) rfl (by kernel_rfl) (fun K hK => ?_)
    go_simp
    refine hK.out _ _ ?_
    clear hK K
    (try simp only [la, lb, lc, ld, lf, lg, lh])
    refine wpAnyL_done (by kernel_rfl) ?_ _
    go_wp2_with fail
    go_meet
    exact RndX.mk y10 Gz.out Q6.out O1.out E1.out y1 (by first | exact .inl z1 | exact .inr z1) Hil.out O3.out E3.out y3 (by first | exact .inl z3 | exact .inr z3) Hhl.out N6.out M6.out E6.out y6 (by first | exact .inl z6 | exact .inr z6)
  ·
   go_simp
   refine hK.out _ _ (HS0.out _ (bt Q5.out (below_new _ _))) (fun hHeld => ?_)
   clear hK K
   (try simp only [la, lb, lc, ld, lf, lg, lh])
   obtain ⟨X10, hX10⟩ : ∃ X, X = X5.alloc (.cells #[.slice none 0 0, .bool false, .slice none 0 0, .slice none 0 0, .slice none 0 0, .slice none 0 0] 58) := ⟨_, rfl⟩
   rw [← hX10]
   have D10 : Hid (Below X5.heap.size X5 X10) := Lib.hid (by rw [hX10]; exact below_new _ _)
   have Q10 := Lib.hid (bt Q5.out D10.out)
   have G10 : Hid (X10.heap[X5.heap.size]? = some (.cells #[.slice none 0 0, .bool false, .slice none 0 0, .slice none 0 0, .slice none 0 0, .slice none 0 0] 58 (0, 0))) := Lib.hid (by rw [hX10]; exact box_new _ _)
   obtain ⟨g10, hg10⟩ : ∃ g, X5.heap.size = g := ⟨_, rfl⟩
   have y10 : wb.heap.size ≤ g10 := by rw [← hg10]; exact Q5.out.size
   rw [hg10] at G10 ⊢
   clear hg10
   have E5 := Lib.hid (bt E5.out D10.out)
   have E10 := Lib.hid (Below.refl X10.heap.size X10)
   have hHeld := HS0.out _ Q10.out
   clear hX10
   refine wpAnyL_one (i := 1) (by kernel_rfl) rfl (fun K hK => ?_)
   (go_simp; have y1 : wb.heap.size ≤ X10.heap.size := Q10.out.size; have z1 : g10 < X10.heap.size := Nat.lt_of_lt_of_le (size_of_box G10.out) E10.out.size; go_at_call 123; refine (HIn.out _ Q10.out).mono ?_; rintro e X1 ⟨v1, rfl, o1, b1⟩; obtain ⟨a1, n1, c1, rfl⟩ := Own.slice o1; have O1 := Lib.hid o1; have D1 := Lib.hid b1; have Q1 := Lib.hid (bt Q10.out b1); clear o1 b1; have E5 := Lib.hid (bt E5.out D1.out); have E10 := Lib.hid (bt E10.out D1.out); have E1 := Lib.hid (Below.refl X1.heap.size X1))
   refine hK.out _ _ (HS0.out _ Q1.out) (fun hHeld => ?_)
   clear hK K
   (try simp only [la, lb, lc, ld, lf, lg, lh])
   refine wpAnyL_one (i := 3) (by kernel_rfl) rfl (fun K hK => ?_)
   (go_simp; have y3 : wb.heap.size ≤ X1.heap.size := Q1.out.size; have z3 : g10 < X1.heap.size := Nat.lt_of_lt_of_le (size_of_box G10.out) E10.out.size; go_at_call 124; refine (HT1.out _ Q1.out).mono ?_; rintro e X3 ⟨v3, rfl, o3, b3⟩; obtain ⟨a3, n3, c3, rfl⟩ := Own.slice o3; have O3 := Lib.hid o3; have D3 := Lib.hid b3; have Q3 := Lib.hid (bt Q1.out b3); clear o3 b3; have E1 := Lib.hid (bt E1.out D3.out); have E5 := Lib.hid (bt E5.out D3.out); have E10 := Lib.hid (bt E10.out D3.out); have E3 := Lib.hid (Below.refl X3.heap.size X3))
   refine hK.out _ _ (HS0.out _ Q3.out) (fun hHeld => ?_)
   clear hK K
   (try simp only [la, lb, lc, ld, lf, lg, lh])
   refine wpAnyL_one (i := 6) (by kernel_rfl) rfl (fun K hK => ?_)
   (go_simp; have y6 : wb.heap.size ≤ X3.heap.size := Q3.out.size; have z6 : g10 < X3.heap.size := Nat.lt_of_lt_of_le (size_of_box G10.out) E10.out.size; go_at_call 124; refine (HT2.out _ _ (RInts.same (.of_below E5.out) (lit1 G5.out Hlw.out))).mono ?_; rintro e X6 ⟨v6, rfl, o6, b6⟩; obtain ⟨g6, p6, an, mn, cn, ad, md, cd, rfl, h6, r6n, r6d⟩ := bill1 o6; have N6 := Lib.hid r6n; have M6 := Lib.hid r6d; have H6 := Lib.hid h6; clear r6n r6d h6; have D6 := Lib.hid b6; have Q6 := Lib.hid (bt Q3.out b6); clear o6 b6; have E1 := Lib.hid (bt E1.out D6.out); have E3 := Lib.hid (bt E3.out D6.out); have E5 := Lib.hid (bt E5.out D6.out); have E10 := Lib.hid (bt E10.out D6.out); have E6 := Lib.hid (Below.refl X6.heap.size X6))
   refine hK.out _ _ (HS0.out _ Q6.out) (fun hHeld => ?_)
   clear hK K
   (try simp only [la, lb, lc, ld, lf, lg, lh])
   refine wpAnyL_hold (S' := (fun W' : World => W'.cell? ⟨w1.heap.size, 0, none⟩ = some (.slice (some ⟨w.heap.size, 0, none⟩) k.C k.C) ∧ W'.cell? ⟨g6, 0, none⟩ = some (.bool false) ∧ W'.cell? ⟨g6, 1, none⟩ = some (.slice an mn cn) ∧ W'.cell? ⟨g6, 2, none⟩ = some (.slice ad md cd))) (fun _ h => h.1) ?_
   have hHeld := And.intro hHeld (H6.out _ E6.out)
   refine tk 7 ?_ rfl hHeld ?_ ?_; rotate_left
   ·intro w hSw; (try dsimp only at hSw); go_simp; try (with_reducible rfl)
   (try simp only [la, lb, lc, ld, lf, lg, lh])
   refine tk 8 ?_ rfl hHeld ?_ ?_; rotate_left
   ·intro w hSw; (try dsimp only at hSw); go_simp; try (with_reducible rfl)
   (try simp only [la, lb, lc, ld, lf, lg, lh])
   refine tk 9 ?_ rfl hHeld ?_ ?_; rotate_left
   ·intro w hSw; (try dsimp only at hSw); go_simp; try (with_reducible rfl)
   (try simp only [la, lb, lc, ld, lf, lg, lh])
   refine tk 11 ?_ rfl hHeld ?_ ?_; rotate_left
   ·intro w hSw; (try dsimp only at hSw); go_simp; try (with_reducible rfl)
   (try simp only [la, lb, lc, ld, lf, lg, lh])
   have g0 := keep_box E10.out G10.out
   obtain ⟨-, gz, gf⟩ := own_box (Below.refl _ _) (size_of_box g0) g0
   have gz0 := gz 0; have gz1 := gz 1; have gz2 := gz 2; have gz3 := gz 3; have gz4 := gz 4; have gz5 := gz 5; have gf0 := gf 0; have gf1 := gf 1; have gf2 := gf 2; have gf3 := gf 3; have gf4 := gf 4; have gf5 := gf 5
   have Gz := Lib.hid g0
   clear gz gf g0
   refine wpAnyL_last (i := 12) (by kernel_rfl) rfl (by kernel_rfl) (fun K hK => ?_)
   go_simp
   refine hK.out _ _ ?_
   clear hK K
   (try simp only [la, lb, lc, ld, lf, lg, lh])
   refine wpAnyL_done (by kernel_rfl) ?_ _
   go_wp2_with fail
   go_meet
   exact RndX.mk y10 Gz.out Q6.out O1.out E1.out y1 (by first | exact .inl z1 | exact .inr z1) Hil.out O3.out E3.out y3 (by first | exact .inl z3 | exact .inr z3) Hhl.out N6.out M6.out E6.out y6 (by first | exact .inl z6 | exact .inr z6)
 ·
  go_simp
  refine hK.out _ _ (HS0.out _ (bt Q0.out (below_new _ _))) (fun hHeld => ?_)
  clear hK K
  (try simp only [la, lb, lc, ld, lf, lg, lh])
  obtain ⟨X10, hX10⟩ : ∃ X, X = X0.alloc (.cells #[.slice none 0 0, .bool false, .slice none 0 0, .slice none 0 0, .slice none 0 0, .slice none 0 0] 58) := ⟨_, rfl⟩
  rw [← hX10]
  have D10 : Hid (Below X0.heap.size X0 X10) := Lib.hid (by rw [hX10]; exact below_new _ _)
  have Q10 := Lib.hid (bt Q0.out D10.out)
  have G10 : Hid (X10.heap[X0.heap.size]? = some (.cells #[.slice none 0 0, .bool false, .slice none 0 0, .slice none 0 0, .slice none 0 0, .slice none 0 0] 58 (0, 0))) := Lib.hid (by rw [hX10]; exact box_new _ _)
  obtain ⟨g10, hg10⟩ : ∃ g, X0.heap.size = g := ⟨_, rfl⟩
  have y10 : wb.heap.size ≤ g10 := by rw [← hg10]; exact Q0.out.size
  rw [hg10] at G10 ⊢
  clear hg10
  have E10 := Lib.hid (Below.refl X10.heap.size X10)
  have hHeld := HS0.out _ Q10.out
  clear hX10
  refine wpAnyL_two (i := 1) (j := 5) (by kernel_rfl) rfl rfl (fun K hK => ?_) (fun K hK => ?_)
  ·
   (go_simp; have y1 : wb.heap.size ≤ X10.heap.size := Q10.out.size; have z1 : g10 < X10.heap.size := Nat.lt_of_lt_of_le (size_of_box G10.out) E10.out.size; go_at_call 123; refine (HIn.out _ Q10.out).mono ?_; rintro e X1 ⟨v1, rfl, o1, b1⟩; obtain ⟨a1, n1, c1, rfl⟩ := Own.slice o1; have O1 := Lib.hid o1; have D1 := Lib.hid b1; have Q1 := Lib.hid (bt Q10.out b1); clear o1 b1; have E10 := Lib.hid (bt E10.out D1.out); have E1 := Lib.hid (Below.refl X1.heap.size X1))
   refine hK.out _ _ (HS0.out _ Q1.out) (fun hHeld => ?_)
   clear hK K
   (try simp only [la, lb, lc, ld, lf, lg, lh])
   refine wpAnyL_two (i := 3) (j := 5) (by kernel_rfl) rfl rfl (fun K hK => ?_) (fun K hK => ?_)
   ·
    (go_simp; have y3 : wb.heap.size ≤ X1.heap.size := Q1.out.size; have z3 : g10 < X1.heap.size := Nat.lt_of_lt_of_le (size_of_box G10.out) E10.out.size; go_at_call 124; refine (HT1.out _ Q1.out).mono ?_; rintro e X3 ⟨v3, rfl, o3, b3⟩; obtain ⟨a3, n3, c3, rfl⟩ := Own.slice o3; have O3 := Lib.hid o3; have D3 := Lib.hid b3; have Q3 := Lib.hid (bt Q1.out b3); clear o3 b3; have E1 := Lib.hid (bt E1.out D3.out); have E10 := Lib.hid (bt E10.out D3.out); have E3 := Lib.hid (Below.refl X3.heap.size X3))
    refine hK.out _ _ (HS0.out _ Q3.out) (fun hHeld => ?_)
    clear hK K
    (try simp only [la, lb, lc, ld, lf, lg, lh])
    refine wpAnyL_one (i := 5) (by kernel_rfl) rfl (fun K hK => ?_)
    go_simp
    refine hK.out _ _ (HS0.out _ (bt Q3.out (below_new _ _))) (fun hHeld => ?_)
    clear hK K
    (try simp only [la, lb, lc, ld, lf, lg, lh])
    obtain ⟨X5, hX5⟩ : ∃ X, X = X3.alloc (.cells #[.int .i64 (greL k.C k.Q k.votes rv inn el)] 3) := ⟨_, rfl⟩
    rw [← hX5]
    have D5 : Hid (Below X3.heap.size X3 X5) := Lib.hid (by rw [hX5]; exact below_new _ _)
    have Q5 := Lib.hid (bt Q3.out D5.out)
    have G5 : Hid (X5.heap[X3.heap.size]? = some (.cells #[.int .i64 (greL k.C k.Q k.votes rv inn el)] 3 (0, 0))) := Lib.hid (by rw [hX5]; exact box_new _ _)
    have E1 := Lib.hid (bt E1.out D5.out)
    have E3 := Lib.hid (bt E3.out D5.out)
    have E10 := Lib.hid (bt E10.out D5.out)
    have E5 := Lib.hid (Below.refl X5.heap.size X5)
    have hHeld := HS0.out _ Q5.out
    clear hX5
    refine wpAnyL_one (i := 6) (by kernel_rfl) rfl (fun K hK => ?_)
    (go_simp; have y6 : wb.heap.size ≤ X5.heap.size := Q5.out.size; have z6 : g10 < X5.heap.size := Nat.lt_of_lt_of_le (size_of_box G10.out) E10.out.size; go_at_call 124; refine (HT2.out _ _ (RInts.same (.of_below E5.out) (lit1 G5.out Hlw.out))).mono ?_; rintro e X6 ⟨v6, rfl, o6, b6⟩; obtain ⟨g6, p6, an, mn, cn, ad, md, cd, rfl, h6, r6n, r6d⟩ := bill1 o6; have N6 := Lib.hid r6n; have M6 := Lib.hid r6d; have H6 := Lib.hid h6; clear r6n r6d h6; have D6 := Lib.hid b6; have Q6 := Lib.hid (bt Q5.out b6); clear o6 b6; have E1 := Lib.hid (bt E1.out D6.out); have E3 := Lib.hid (bt E3.out D6.out); have E5 := Lib.hid (bt E5.out D6.out); have E10 := Lib.hid (bt E10.out D6.out); have E6 := Lib.hid (Below.refl X6.heap.size X6))
    refine hK.out _ _ (HS0.out _ Q6.out) (fun hHeld => ?_)
    clear hK K
    (try simp only [la, lb, lc, ld, lf, lg, lh])
    refine wpAnyL_hold (S' := (fun W' : World => W'.cell? ⟨w1.heap.size, 0, none⟩ = some (.slice (some ⟨w.heap.size, 0, none⟩) k.C k.C) ∧ W'.cell? ⟨g6, 0, none⟩ = some (.bool false) ∧ W'.cell? ⟨g6, 1, none⟩ = some (.slice an mn cn) ∧ W'.cell? ⟨g6, 2, none⟩ = some (.slice ad md cd))) (fun _ h => h.1) ?_
    have hHeld := And.intro hHeld (H6.out _ E6.out)
    refine tk 7 ?_ rfl hHeld ?_ ?_; rotate_left
    ·intro w hSw; (try dsimp only at hSw); go_simp; try (with_reducible rfl)
    (try simp only [la, lb, lc, ld, lf, lg, lh])
    refine tk 8 ?_ rfl hHeld ?_ ?_; rotate_left
    ·intro w hSw; (try dsimp only at hSw); go_simp; try (with_reducible rfl)
    (try simp only [la, lb, lc, ld, lf, lg, lh])
    refine tk 9 ?_ rfl hHeld ?_ ?_; rotate_left
    ·intro w hSw; (try dsimp only at hSw); go_simp; try (with_reducible rfl)
    (try simp only [la, lb, lc, ld, lf, lg, lh])
    refine tk 11 ?_ rfl hHeld ?_ ?_; rotate_left
    ·intro w hSw; (try dsimp only at hSw); go_simp; try (with_reducible rfl)
    (try simp only [la, lb, lc, ld, lf, lg, lh])
    have g0 := keep_box E10.out G10.out
    obtain ⟨-, gz, gf⟩ := own_box (Below.refl _ _) (size_of_box g0) g0
    have gz0 := gz 0; have gz1 := gz 1; have gz2 := gz 2; have gz3 := gz 3; have gz4 := gz 4; have gz5 := gz 5; have gf0 := gf 0; have gf1 := gf 1; have gf2 := gf 2; have gf3 := gf 3; have gf4 := gf 4; have gf5 := gf 5
    have Gz := Lib.hid g0
    clear gz gf g0
    refine wpAnyL_last (i := 12) (by kernel_rfl) rfl (by kernel_rfl) (fun K hK => ?_)
    go_simp
    refine hK.out _ _ ?_
    clear hK K
    (try simp only [la, lb, lc, ld, lf, lg, lh])
    refine wpAnyL_done (by kernel_rfl) ?_ _
    go_wp2_with fail
    go_meet
    exact RndX.mk y10 Gz.out Q6.out O1.out E1.out y1 (by first | exact .inl z1 | exact .inr z1) Hil.out O3.out E3.out y3 (by first | exact .inl z3 | exact .inr z3) Hhl.out N6.out M6.out E6.out y6 (by first | exact .inl z6 | exact .inr z6)
   ·
    go_simp
    refine hK.out _ _ (HS0.out _ (bt Q1.out (below_new _ _))) (fun hHeld => ?_)
    clear hK K
    (try simp only [la, lb, lc, ld, lf, lg, lh])
    obtain ⟨X5, hX5⟩ : ∃ X, X = X1.alloc (.cells #[.int .i64 (greL k.C k.Q k.votes rv inn el)] 3) := ⟨_, rfl⟩
    rw [← hX5]
    have D5 : Hid (Below X1.heap.size X1 X5) := Lib.hid (by rw [hX5]; exact below_new _ _)
    have Q5 := Lib.hid (bt Q1.out D5.out)
    have G5 : Hid (X5.heap[X1.heap.size]? = some (.cells #[.int .i64 (greL k.C k.Q k.votes rv inn el)] 3 (0, 0))) := Lib.hid (by rw [hX5]; exact box_new _ _)
    have E1 := Lib.hid (bt E1.out D5.out)
    have E10 := Lib.hid (bt E10.out D5.out)
    have E5 := Lib.hid (Below.refl X5.heap.size X5)
    have hHeld := HS0.out _ Q5.out
    clear hX5
    refine wpAnyL_one (i := 3) (by kernel_rfl) rfl (fun K hK => ?_)
    (go_simp; have y3 : wb.heap.size ≤ X5.heap.size := Q5.out.size; have z3 : g10 < X5.heap.size := Nat.lt_of_lt_of_le (size_of_box G10.out) E10.out.size; go_at_call 124; refine (HT1.out _ Q5.out).mono ?_; rintro e X3 ⟨v3, rfl, o3, b3⟩; obtain ⟨a3, n3, c3, rfl⟩ := Own.slice o3; have O3 := Lib.hid o3; have D3 := Lib.hid b3; have Q3 := Lib.hid (bt Q5.out b3); clear o3 b3; have E1 := Lib.hid (bt E1.out D3.out); have E5 := Lib.hid (bt E5.out D3.out); have E10 := Lib.hid (bt E10.out D3.out); have E3 := Lib.hid (Below.refl X3.heap.size X3))
    refine hK.out _ _ (HS0.out _ Q3.out) (fun hHeld => ?_)
    clear hK K
    (try simp only [la, lb, lc, ld, lf, lg, lh])
    refine wpAnyL_one (i := 6) (by kernel_rfl) rfl (fun K hK => ?_)
    (go_simp; have y6 : wb.heap.size ≤ X3.heap.size := Q3.out.size; have z6 : g10 < X3.heap.size := Nat.lt_of_lt_of_le (size_of_box G10.out) E10.out.size; go_at_call 124; refine (HT2.out _ _ (RInts.same (.of_below E5.out) (lit1 G5.out Hlw.out))).mono ?_; rintro e X6 ⟨v6, rfl, o6, b6⟩; obtain ⟨g6, p6, an, mn, cn, ad, md, cd, rfl, h6, r6n, r6d⟩ := bill1 o6; have N6 := Lib.hid r6n; have M6 := Lib.hid r6d; have H6 := Lib.hid h6; clear r6n r6d h6; have D6 := Lib.hid b6; have Q6 := Lib.hid (bt Q3.out b6); clear o6 b6; have E1 := Lib.hid (bt E1.out D6.out); have E3 := Lib.hid (bt E3.out D6.out); have E5 := Lib.hid (bt E5.out D6.out); have E10 := Lib.hid (bt E10.out D6.out); have E6 := Lib.hid (Below.refl X6.heap.size X6))
    refine hK.out _ _ (HS0.out _ Q6.out) (fun hHeld => ?_)
    clear hK K
    (try simp only [la, lb, lc, ld, lf, lg, lh])
    refine wpAnyL_hold (S' := (fun W' : World => W'.cell? ⟨w1.heap.size, 0, none⟩ = some (.slice (some ⟨w.heap.size, 0, none⟩) k.C k.C) ∧ W'.cell? ⟨g6, 0, none⟩ = some (.bool false) ∧ W'.cell? ⟨g6, 1, none⟩ = some (.slice an mn cn) ∧ W'.cell? ⟨g6, 2, none⟩ = some (.slice ad md cd))) (fun _ h => h.1) ?_
    have hHeld := And.intro hHeld (H6.out _ E6.out)
    refine tk 7 ?_ rfl hHeld ?_ ?_; rotate_left
    ·intro w hSw; (try dsimp only at hSw); go_simp; try (with_reducible rfl)
    (try simp only [la, lb, lc, ld, lf, lg, lh])
    refine tk 8 ?_ rfl hHeld ?_ ?_; rotate_left
    ·intro w hSw; (try dsimp only at hSw); go_simp; try (with_reducible rfl)
    (try simp only [la, lb, lc, ld, lf, lg, lh])
    refine tk 9 ?_ rfl hHeld ?_ ?_; rotate_left
    ·intro w hSw; (try dsimp only at hSw); go_simp; try (with_reducible rfl)
    (try simp only [la, lb, lc, ld, lf, lg, lh])
    refine tk 11 ?_ rfl hHeld ?_ ?_; rotate_left
    ·intro w hSw; (try dsimp only at hSw); go_simp; try (with_reducible rfl)
    (try simp only [la, lb, lc, ld, lf, lg, lh])
    have g0 := keep_box E10.out G10.out
    obtain ⟨-, gz, gf⟩ := own_box (Below.refl _ _) (size_of_box g0) g0
    have gz0 := gz 0; have gz1 := gz 1; have gz2 := gz 2; have gz3 := gz 3; have gz4 := gz 4; have gz5 := gz 5; have gf0 := gf 0; have gf1 := gf 1; have gf2 := gf 2; have gf3 := gf 3; have gf4 := gf 4; have gf5 := gf 5
    have Gz := Lib.hid g0
    clear gz gf g0
    refine wpAnyL_last (i := 12) (by kernel_rfl) rfl (by kernel_rfl) (fun K hK => ?_)
    go_simp
    refine hK.out _ _ ?_
    clear hK K
    (try simp only [la, lb, lc, ld, lf, lg, lh])
    refine wpAnyL_done (by kernel_rfl) ?_ _
    go_wp2_with fail
    go_meet
    exact RndX.mk y10 Gz.out Q6.out O1.out E1.out y1 (by first | exact .inl z1 | exact .inr z1) Hil.out O3.out E3.out y3 (by first | exact .inl z3 | exact .inr z3) Hhl.out N6.out M6.out E6.out y6 (by first | exact .inl z6 | exact .inr z6)
  ·
   go_simp
   refine hK.out _ _ (HS0.out _ (bt Q10.out (below_new _ _))) (fun hHeld => ?_)
   clear hK K
   (try simp only [la, lb, lc, ld, lf, lg, lh])
   obtain ⟨X5, hX5⟩ : ∃ X, X = X10.alloc (.cells #[.int .i64 (greL k.C k.Q k.votes rv inn el)] 3) := ⟨_, rfl⟩
   rw [← hX5]
   have D5 : Hid (Below X10.heap.size X10 X5) := Lib.hid (by rw [hX5]; exact below_new _ _)
   have Q5 := Lib.hid (bt Q10.out D5.out)
   have G5 : Hid (X5.heap[X10.heap.size]? = some (.cells #[.int .i64 (greL k.C k.Q k.votes rv inn el)] 3 (0, 0))) := Lib.hid (by rw [hX5]; exact box_new _ _)
   have E10 := Lib.hid (bt E10.out D5.out)
   have E5 := Lib.hid (Below.refl X5.heap.size X5)
   have hHeld := HS0.out _ Q5.out
   clear hX5
   refine wpAnyL_one (i := 1) (by kernel_rfl) rfl (fun K hK => ?_)
   (go_simp; have y1 : wb.heap.size ≤ X5.heap.size := Q5.out.size; have z1 : g10 < X5.heap.size := Nat.lt_of_lt_of_le (size_of_box G10.out) E10.out.size; go_at_call 123; refine (HIn.out _ Q5.out).mono ?_; rintro e X1 ⟨v1, rfl, o1, b1⟩; obtain ⟨a1, n1, c1, rfl⟩ := Own.slice o1; have O1 := Lib.hid o1; have D1 := Lib.hid b1; have Q1 := Lib.hid (bt Q5.out b1); clear o1 b1; have E5 := Lib.hid (bt E5.out D1.out); have E10 := Lib.hid (bt E10.out D1.out); have E1 := Lib.hid (Below.refl X1.heap.size X1))
   refine hK.out _ _ (HS0.out _ Q1.out) (fun hHeld => ?_)
   clear hK K
   (try simp only [la, lb, lc, ld, lf, lg, lh])
   refine wpAnyL_one (i := 3) (by kernel_rfl) rfl (fun K hK => ?_)
   (go_simp; have y3 : wb.heap.size ≤ X1.heap.size := Q1.out.size; have z3 : g10 < X1.heap.size := Nat.lt_of_lt_of_le (size_of_box G10.out) E10.out.size; go_at_call 124; refine (HT1.out _ Q1.out).mono ?_; rintro e X3 ⟨v3, rfl, o3, b3⟩; obtain ⟨a3, n3, c3, rfl⟩ := Own.slice o3; have O3 := Lib.hid o3; have D3 := Lib.hid b3; have Q3 := Lib.hid (bt Q1.out b3); clear o3 b3; have E1 := Lib.hid (bt E1.out D3.out); have E5 := Lib.hid (bt E5.out D3.out); have E10 := Lib.hid (bt E10.out D3.out); have E3 := Lib.hid (Below.refl X3.heap.size X3))
   refine hK.out _ _ (HS0.out _ Q3.out) (fun hHeld => ?_)
   clear hK K
   (try simp only [la, lb, lc, ld, lf, lg, lh])
   refine wpAnyL_one (i := 6) (by kernel_rfl) rfl (fun K hK => ?_)
   (go_simp; have y6 : wb.heap.size ≤ X3.heap.size := Q3.out.size; have z6 : g10 < X3.heap.size := Nat.lt_of_lt_of_le (size_of_box G10.out) E10.out.size; go_at_call 124; refine (HT2.out _ _ (RInts.same (.of_below E5.out) (lit1 G5.out Hlw.out))).mono ?_; rintro e X6 ⟨v6, rfl, o6, b6⟩; obtain ⟨g6, p6, an, mn, cn, ad, md, cd, rfl, h6, r6n, r6d⟩ := bill1 o6; have N6 := Lib.hid r6n; have M6 := Lib.hid r6d; have H6 := Lib.hid h6; clear r6n r6d h6; have D6 := Lib.hid b6; have Q6 := Lib.hid (bt Q3.out b6); clear o6 b6; have E1 := Lib.hid (bt E1.out D6.out); have E3 := Lib.hid (bt E3.out D6.out); have E5 := Lib.hid (bt E5.out D6.out); have E10 := Lib.hid (bt E10.out D6.out); have E6 := Lib.hid (Below.refl X6.heap.size X6))
   refine hK.out _ _ (HS0.out _ Q6.out) (fun hHeld => ?_)
   clear hK K
   (try simp only [la, lb, lc, ld, lf, lg, lh])
   refine wpAnyL_hold (S' := (fun W' : World => W'.cell? ⟨w1.heap.size, 0, none⟩ = some (.slice (some ⟨w.heap.size, 0, none⟩) k.C k.C) ∧ W'.cell? ⟨g6, 0, none⟩ = some (.bool false) ∧ W'.cell? ⟨g6, 1, none⟩ = some (.slice an mn cn) ∧ W'.cell? ⟨g6, 2, none⟩ = some (.slice ad md cd))) (fun _ h => h.1) ?_
   have hHeld := And.intro hHeld (H6.out _ E6.out)
   refine tk 7 ?_ rfl hHeld ?_ ?_; rotate_left
   ·intro w hSw; (try dsimp only at hSw); go_simp; try (with_reducible rfl)
   (try simp only [la, lb, lc, ld, lf, lg, lh])
   refine tk 8 ?_ rfl hHeld ?_ ?_; rotate_left
   ·intro w hSw; (try dsimp only at hSw); go_simp; try (with_reducible rfl)
   (try simp only [la, lb, lc, ld, lf, lg, lh])
   refine tk 9 ?_ rfl hHeld ?_ ?_; rotate_left
   ·intro w hSw; (try dsimp only at hSw); go_simp; try (with_reducible rfl)
   (try simp only [la, lb, lc, ld, lf, lg, lh])
   refine tk 11 ?_ rfl hHeld ?_ ?_; rotate_left
   ·intro w hSw; (try dsimp only at hSw); go_simp; try (with_reducible rfl)
   (try simp only [la, lb, lc, ld, lf, lg, lh])
   have g0 := keep_box E10.out G10.out
   obtain ⟨-, gz, gf⟩ := own_box (Below.refl _ _) (size_of_box g0) g0
   have gz0 := gz 0; have gz1 := gz 1; have gz2 := gz 2; have gz3 := gz 3; have gz4 := gz 4; have gz5 := gz 5; have gf0 := gf 0; have gf1 := gf 1; have gf2 := gf 2; have gf3 := gf 3; have gf4 := gf 4; have gf5 := gf 5
   have Gz := Lib.hid g0
   clear gz gf g0
   refine wpAnyL_last (i := 12) (by kernel_rfl) rfl (by kernel_rfl) (fun K hK => ?_)
   go_simp
   refine hK.out _ _ ?_
   clear hK K
   (try simp only [la, lb, lc, ld, lf, lg, lh])
   refine wpAnyL_done (by kernel_rfl) ?_ _
   go_wp2_with fail
   go_meet
   exact RndX.mk y10 Gz.out Q6.out O1.out E1.out y1 (by first | exact .inl z1 | exact .inr z1) Hil.out O3.out E3.out y3 (by first | exact .inl z3 | exact .inr z3) Hhl.out N6.out M6.out E6.out y6 (by first | exact .inl z6 | exact .inr z6)
 rename World => wA
 obtain ⟨g, a5, n5, c5, vh, vn, vd, rfl, rfl, hyg, hgx, hin5, hvh, hvn, hvd, hbc⟩ := hcut
 have hgc := HGb.out.below hbc
 have hAr := fun (W : World) (hW : Below wA.heap.size wA W) => ((HAb.out.below hbc).below hW).all (S := Any) trivial (fun x hx => WalkArith.wf_i64 (by have := Hhb.out x hx; omega)) (by rw [greH, fl_length]; omega) (n := k.C) (cap := k.C) (by rw [greH, fl_length]) (Nat.le_refl _)
 have hBx := fun (W : World) (hW : Below wA.heap.size wA W) => keep_box (bt hbc hW) Gbx.out
 have hR1 : ∀ W x, Below wA.heap.size wA W → (0 ≤ x ∧ x < (k.C : Int)) → Calls Tryz.prog 122 (#[.int .i64 x] ++ #[.pointer (some ⟨w1.heap.size, 0, none⟩)]) W fun e w' => e = .returned (.int .i64 (gI (greH k.C k.Q rv inn el) x)) ∧ Below W.heap.size W w' := fun W x hW hx =>
  (greRound1 Any _ (greH k.C k.Q rv inn el) x W w1.heap.size (hBx W hW) (hAr W hW) hx.1 (by rw [greH, fl_length]; exact hx.2)).mono fun e w' ⟨h1, h2⟩ => ⟨h1, h2 ▸ Below.refl _ _⟩
 have eg : ∀ args w, (callFunc 122 args).run Tryz.prog w = .ok (.enter 122 args) w := enters_of Tryz.func122 (by kernel_rfl) rfl
 have hBest := choBest Any (.slice a5 n5 c5) inn wA (RSl.mono (fun _ _ _ h => h) (fun _ _ => trivial) hin5) Hil.out 122 #[.pointer (some ⟨w1.heap.size, 0, none⟩)] eg (gI (greH k.C k.Q rv inn el)) (fun W x hW hx => hR1 W x hW (HK.out.rng x hx))
 obtain ⟨had, hhad⟩ : ∃ l, greH k.C k.Q rv inn el = l := ⟨_, rfl⟩
 obtain ⟨lost, hlost⟩ : ∃ l, greL k.C k.Q k.votes rv inn el = l := ⟨_, rfl⟩
 rw [hhad] at hBest hvh hR1
 rw [hlost] at hvn hvd ⊢
 have Hhad := Lib.hid hhad; have Hlost := Lib.hid hlost; have HBe := Lib.hid hBest; have HR1 := Lib.hid hR1; have Heg := Lib.hid eg; have Hgx := Lib.hid hgx; have Hin5 := Lib.hid hin5; have Hvh := Lib.hid hvh; have Hvn := Lib.hid hvn; have Hvd := Lib.hid hvd; have Hbc := Lib.hid hbc; have HGC := Lib.hid hgc
 have HAr := Lib.hid hAr; have HBx := Lib.hid hBx
 clear hhad hlost hBest hR1 eg hgx hin5 hvh hvn hvd hbc hgc hAr hBx HIn HT1 HT2 HS0 Q0 Hlw Hhl
 go_upto_block 0 with (go_at_call 125; refine HBe.out.mono ?_; rintro e wd ⟨v7, rfl, o7, b7⟩; obtain ⟨a7, n7, c7, rfl⟩ := Own.slice o7; have O7 := Lib.hid o7; have B7 := Lib.hid b7; clear o7 b7)
 have n5e : n5 = inn.length := RSl.len Hin5.out
 have hgl : g < wA.heap.size := size_of_box Hgx.out
 have hz7 := B7.out.size
 have hA0 : RndA { k with x := [some g] } wd ve vrd vt vr vst g wd ve vt rv inn el el rounds ties vh vn vd (.slice none 0 0) (.slice none 0 0) :=
  ⟨GSt.side (k := k) (X := k.x) (Y := [some g]) HGb.out (bt Hbc.out B7.out) (fun b hb => by rw [List.mem_singleton, Option.some.injEq] at hb; subst hb; exact ⟨by omega, .inr hyg⟩), keep_box B7.out Hgx.out, Keep.refl _ _, Mv.refl _ _, Mv.refl _ _, List.mem_singleton.2 rfl, fun hm => by have := (HGb.out.low g hm).2; omega, by omega, by have := HGb.out.big; have := HGb.out.l2; show k.gC ≤ g; omega⟩
 have hstp : ∀ W ve' vt' rv' inn' el' ee' ties', GSt { k with x := [some g] } W ve' vrd vt' vr vst rv' inn' el' ee' rounds ties' → W.cell? ⟨k.gc, 0, none⟩ = some (.pointer (some ⟨k.gC, 0, none⟩)) ∧ W.cell? ⟨k.gc, 2, none⟩ = some vst ∧ W.cell? ⟨k.gc, 3, none⟩ = some (.int .i64 seats) ∧ W.cell? ⟨k.gc, 4, none⟩ = some (.int .i64 k.Q) ∧ W.cell? ⟨k.gC, 0, none⟩ = some ve' := fun W ve' vt' rv' inn' el' ee' ties' hW => by
  have h1 := (own_box (Below.refl _ W) (size_of_box hW.bc) hW.bc).2.1
  have h2 := (own_box (Below.refl _ W) (size_of_box hW.bC) hW.bC).2.1
  refine ⟨h1 0, h1 2, ?_, h1 4, h2 0⟩
  rw [← hse]; exact h1 3
 obtain ⟨ae, ce, hve⟩ := Own.shape HG.out.oe
 have hc0 := hstp _ _ _ _ _ _ _ _ hA0.st
 rw [hve] at hc0
 have HA0 := Lib.hid hA0; have Hstp := Lib.hid hstp
 obtain ⟨p0, -, p3, p4, pe⟩ := hc0
 clear hA0 hstp
 have hAd := (HAb.out.below Hbc.out).below B7.out
 rw [Hhad.out] at hAd
 have hlh : had.length = k.C := by rw [← Hhad.out, greH, fl_length]
 have hKA : ∀ W, Keep (some g :: k.M ve vrd vt vr vst) wd W → Arr .i64 W w.heap.size 3 had ∧ W.heap[w1.heap.size]? = some (.cells #[.slice (some ⟨w.heap.size, 0, none⟩) k.C k.C] 25 (0, 0)) := fun W hW => by
  have hno : ∀ b, w.heap.size ≤ b → b < wb.heap.size → some b ∉ some g :: k.M ve vrd vt vr vst := fun b h1 h2 hm => by
   rcases List.mem_cons.1 hm with e | e
   ·have := Option.some.inj e; omega
   ·have := (HG.out.low b e).2; omega
  have hz1 := B1.out.size
  have hzb := size_of_box Gbx.out
  have hA1 := A1.out.lt
  exact ⟨hW.box hAd (hno _ (Nat.le_refl _) (by omega)), hW.box (keep_box B7.out (HBx.out wA (Below.refl _ _))) (hno _ hz1 hzb)⟩
 obtain ⟨nl, hnl⟩ : ∃ n, inn.length = n := ⟨_, rfl⟩
 obtain ⟨ne, hne⟩ : ∃ n, el.length = n := ⟨_, rfl⟩
 rw [hne] at pe hve hlt hen
 rw [hnl] at n5e hen
 subst n5e
 have hil := Hil.out
 rw [hnl] at hil
 have Hnl := Lib.hid hnl; have Hne := Lib.hid hne; have Hve := Lib.hid hve
 clear hnl hne hve
 go_cut [] from 138 (fun wz => RndY { k with x := [some g] } wd ve vrd vt vr vst g had lost rounds vh vn vd s2 wz)
 ·by_cases hfill : n5 + ne ≤ seats
  ·obtain ⟨FF, hFF⟩ : ∃ F : Nat → St, F = fillS had k.lot inn := ⟨_, rfl⟩
   have hnd := asc_nodup HK.out.asc
   have hff := fun i (hi : i ≤ inn.length) => fill_facts (had := had) HK.out.lot HK.out.rng hnd i hi
   rw [← hFF] at hff
   have hF0 : FF 0 = ⟨inn, [], []⟩ := by rw [hFF]; rfl
   have hFs : ∀ i, FF (i + 1) = ⟨(FF i).left.filter (fun y => !(y == firstL k.lot (bestL (gI had) (FF i).left))), (FF i).elected ++ [firstL k.lot (bestL (gI had) (FF i).left)], (FF i).ties ++ tieL (bestL (gI had) (FF i).left) (firstL k.lot (bestL (gI had) (FF i).left))⟩ := fun i => by rw [hFF]; rfl
   have hstp : step (greR k.C k.Q k.votes) seats k.lot ⟨rv, inn, el, rounds, ties⟩ = ⟨rv, [], el ++ (FF n5).elected, rounds ++ [⟨had.map bill, bill lost, (FF n5).elected, []⟩], ties ++ (FF n5).ties⟩ := by
    have hsq : Sq.had (greR k.C k.Q k.votes) ⟨rv, inn, el, rounds, ties⟩ = had := Hhad.out
    have hsl : Sq.lost (greR k.C k.Q k.votes) ⟨rv, inn, el, rounds, ties⟩ = lost := Hlost.out
    unfold step
    rw [if_pos (show inn.length + el.length ≤ seats by rw [Hnl.out, Hne.out]; exact hfill)]
    have hb : Sq.fill (greR k.C k.Q k.votes) k.lot ⟨rv, inn, el, rounds, ties⟩ = FF n5 := by rw [Sq.fill, hsq, hFF, ← Hnl.out]
    rw [hb, Sq.rnd, hsq, hsl]
   have hR2 : ∀ W x, Keep (some g :: k.M ve vrd vt vr vst) wd W → (0 ≤ x ∧ x < (k.C : Int)) → Calls Tryz.prog 122 (#[.int .i64 x] ++ #[.pointer (some ⟨w1.heap.size, 0, none⟩)]) W fun e w' => e = .returned (.int .i64 (gI had x)) ∧ Below W.heap.size W w' := fun W x hW hx => by
    obtain ⟨k1, k2⟩ := hKA W hW
    refine (greRound1 Any _ had x W w1.heap.size k2 (k1.all (S := Any) trivial (fun x hx => WalkArith.wf_i64 (by have := Hhb.out x (by rw [Hhad.out]; exact hx); omega)) (by omega) (n := k.C) (cap := k.C) (by omega) (Nat.le_refl _)) hx.1 (by omega)).mono fun e w' ⟨h1, h2⟩ => ⟨h1, h2 ▸ Below.refl _ _⟩
   have Hff := Lib.hid hff; have HFs := Lib.hid hFs; have HF0 := Lib.hid hF0; have Hstp2 := Lib.hid hstp; have HR2 := Lib.hid hR2
   clear hff hFs hF0 hstp hR2 hKA hFF hnd
   have hw1 : IntKind.i64.wrap ((seats : Int) - (ne : Int)) = (seats : Int) - ne := by rw [IntKind.wrap_i64]; omega
   have hlf : (n5 : Int) ≤ (seats : Int) - ne := by omega
   go_wp2
   go_still (by kernel_rfl)
   obtain ⟨we, hwe⟩ : ∃ W : World, W = { heap := wd.heap, tape := wd.tape, drawn := wd.drawn + 1, os := wd.os, output := wd.output } := ⟨_, rfl⟩
   rw [← hwe]
   have hbe : Below wd.heap.size wd we := by rw [hwe]; exact Below.drew (Below.refl _ _)
   have hAe := RndA.side (k := k) (X := [some g]) (Y := [some g, none]) HA0.out hbe (by simp) (fun b hb => by
    simp only [List.mem_cons, List.not_mem_nil, or_false, Option.some.injEq, reduceCtorEq] at hb
    subst hb
    exact ⟨by have := hbe.size; omega, .inl (by simp)⟩)
   have hI5 : RInts Any we (.slice a5 n5 c5) inn := RInts.same (.of_below (bt B7.out hbe)) (RSl.mono (fun _ _ _ h => h) (fun _ _ => trivial) Hin5.out)
   have HAe := Lib.hid hAe; have HI5 := Lib.hid hI5
   clear hAe hI5 hwe hbe p0 p3 p4 pe hw1 hlf
   go_wp2
   go_loopw [5, 8] (fun s5 _ wz => ∃ (i : Nat) (ve' vt' v1 : Value), i ≤ n5 ∧ Hid (RndA { k with x := [some g, v1.ownBlock] } wd ve vrd vt vr vst g wz ve' vt' rv (FF i).left (el ++ (FF i).elected) (el ++ (FF i).elected) rounds (ties ++ (FF i).ties) vh vn vd v1 (.slice none 0 0)) ∧ Hid (Own wd.heap.size 3 1 (dInt .i64) wz v1 (FF i).elected) ∧ Hid (∀ b, v1.ownBlock = some b → some b ∉ k.M ve' vrd vt' vr vst) ∧ (∃ a n c, s5 = .slice a n c) ∧ Hid (RInts Any wz s5 (FF i).left)) (fun s5 _ _ => lenSl s5)
   case atStart =>
    refine ⟨0, ve, vt, .slice none 0 0, Nat.zero_le _, Lib.hid ?_, Lib.hid ?_, Lib.hid (fun b hb => by cases hb), ⟨_, _, _, rfl⟩, Lib.hid ?_⟩
    ·rw [HF0.out]; simp only [List.append_nil]; exact HAe.out
    ·rw [HF0.out]; exact Own.nil _ _ _ _ _
    ·rw [HF0.out]; exact HI5.out
   case round =>
    clear HAe HI5
    obtain ⟨i, ve', vt', v1, hi, hA, hO1, hnM, ⟨a, n, c, rfl⟩, hI⟩ := hrel
    have hfi := Hff.out i (by rw [Hnl.out]; exact hi)
    obtain ⟨t1, t2, t3, t4, t5, t6⟩ := hfi
    have hlen : n = (FF i).left.length := RSl.len hI.out
    by_cases hlt2 : i < n5
    ·have hlne : (FF i).left ≠ [] := fun e => by rw [e] at t5; simp at t5; have := Hnl.out; omega
     have hsubl : ∀ x ∈ (FF i).left, x ∈ inn := fun x hx => by rw [t1] at hx; exact (List.mem_filter.1 hx).1
     have hlasc : (FF i).left.Pairwise (fun a b => a < b) := by rw [t1]; exact HK.out.asc.filter _
     have hamr : ∀ x ∈ bestL (gI had) (FF i).left, 0 ≤ x ∧ x < (k.C : Int) := fun x hx => HK.out.rng x (hsubl x (bestL_mem.1 hx).1)
     have hams : (bestL (gI had) (FF i).left).Pairwise (fun a b => a ≤ b) := List.Pairwise.filter _ (hlasc.imp fun h => by omega)
     have haml : (bestL (gI had) (FF i).left).length ≤ 1000000 := Nat.le_trans (List.length_filter_le _ _) (by have := Hnl.out; omega)
     have hamn : bestL (gI had) (FF i).left ≠ [] := bestL_ne hlne
     obtain ⟨y1, hy1⟩ := List.exists_mem_of_ne_nil _ hamn
     have hfm := firstL_mem (lot := k.lot) (among := bestL (gI had) (FF i).left) ⟨y1, (HK.out.lot.all _).2 (hamr y1 hy1), hy1⟩
     have hfr := hamr _ hfm.1
     have hsi := HFs.out i
     obtain ⟨xf, hxf⟩ : ∃ xf : Nat, firstL k.lot (bestL (gI had) (FF i).left) = (xf : Int) := ⟨(firstL k.lot (bestL (gI had) (FF i).left)).toNat, by omega⟩
     rw [hxf] at hsi hfm
     have hxfC : xf < k.C := by omega
     have hlasc2 : ((FF i).left.filter (fun y => !(y == (xf : Int)))).Pairwise (fun a b => a < b) := hlasc.filter _
     have hlrng2 : ∀ x ∈ (FF i).left.filter (fun y => !(y == (xf : Int))), 0 ≤ x ∧ x < (k.C : Int) := fun x hx => HK.out.rng x (hsubl x (List.mem_filter.1 hx).1)
     have hlw := length_without (asc_nodup hlasc) (bestL_mem.1 hfm.1).1
     obtain ⟨L, hL⟩ : ∃ l, (FF i).left = l := ⟨_, rfl⟩
     obtain ⟨E, hE⟩ : ∃ l, (FF i).elected = l := ⟨_, rfl⟩
     obtain ⟨T, hT⟩ : ∃ l, (FF i).ties = l := ⟨_, rfl⟩
     rw [hL, hE, hT] at hA hsi
     rw [hE] at hO1 t4
     rw [hL] at hI hamr hams haml hamn hxf hlasc2 hlrng2 hlw hlen t5 hsubl
     rw [hT] at t6
     subst hlen
     have hEl := HK.out.elen
     have hTl := HK.out.tlen
     have hnl2 := Hnl.out
     have hBest : ∀ W, Below wr.heap.size wr W → Calls Tryz.prog 125 #[.slice a L.length c, .func (.func 122) #[] #[.pointer (some ⟨w1.heap.size, 0, none⟩)]] W (GivesI (bestL (gI had) L) W) := fun W hW =>
      choBest Any (.slice a L.length c) L W (RInts.same (.of_below hW) hI.out) (by omega) 122 #[.pointer (some ⟨w1.heap.size, 0, none⟩)] Heg.out (gI had) (fun W' x hW' hx => HR2.out W' x (hA.out.below (bt hW hW')).keep (HK.out.rng x (hsubl x hx)))
     have HS10 : Hid (∀ W, Below wr.heap.size wr W → W.cell? ⟨k.gc, 0, none⟩ = some (.pointer (some ⟨k.gC, 0, none⟩))) := Lib.hid fun W hW => by
      have h1 := (hA.out.below hW).st.bc
      exact (own_box (Below.refl _ W) (size_of_box h1) h1).2.1 0
     have hlpos : (L.length : Int) > 0 := by omega
     have hlpos2 : 0 < L.length := by omega
     have hLl : L.length ≤ 1000000 := by omega
     have HBs := Lib.hid hBest; have Hams := Lib.hid hams; have Hamr := Lib.hid hamr; have Hamn := Lib.hid hamn; have Haml := Lib.hid haml; have Hxf := Lib.hid hxf; have Hsi := Lib.hid hsi; have Hlasc2 := Lib.hid hlasc2; have Hlrng2 := Lib.hid hlrng2; have Hlw := Lib.hid hlw
     have hC1 : k.C ≤ 1000 := by omega
     have ht1 : (ties ++ T).length ≤ 1000000 := by rw [List.length_append]; omega
     have he1 : (el ++ E).length ≤ 1000000 := by rw [List.length_append]; omega
     have he2 : E.length ≤ 1000000 := by omega
     have hwx : (Lit.int .i64 (xf : Int)).wf = true := WalkArith.wf_i64 (by omega)
     clear hBest hams hamr hamn haml hxf hsi hlasc hlasc2 hlrng2 hlw hfm hfr hy1 hsubl hlne t1 t2 t3 t5 t6 hL hE hT
     go_upto_region 10 with fail
     refine wp_region_L (S := (fun W' : World => W'.cell? ⟨k.gc, 0, none⟩ = some (.pointer (some ⟨k.gC, 0, none⟩)))) (L := []) (by kernel_rfl) (HS10.out _ (Below.drew (Below.refl _ wr))) (fun hHeld => ?_)
     refine tk 0 ?_ rfl hHeld ?_ ?_; rotate_left
     ·intro w hSw; (try dsimp only at hSw); go_simp; try (with_reducible rfl)
     (try simp only [la, lb, lc, ld, lf, lg, lh])
     refine tk 1 ?_ rfl hHeld ?_ ?_; rotate_left
     ·intro w hSw; (try dsimp only at hSw); go_simp; try (with_reducible rfl)
     (try simp only [la, lb, lc, ld, lf, lg, lh])
     refine tk 2 ?_ rfl hHeld ?_ ?_; rotate_left
     ·intro w hSw; (try dsimp only at hSw); go_simp; try (with_reducible rfl)
     (try simp only [la, lb, lc, ld, lf, lg, lh])
     refine tk 3 ?_ rfl hHeld ?_ ?_; rotate_left
     ·intro w hSw; (try dsimp only at hSw); go_simp; try (with_reducible rfl)
     (try simp only [la, lb, lc, ld, lf, lg, lh])
     refine tk 4 ?_ rfl hHeld ?_ ?_; rotate_left
     ·intro w hSw; (try dsimp only at hSw); go_simp; try (with_reducible rfl)
     (try simp only [la, lb, lc, ld, lf, lg, lh])
     refine tk 5 ?_ rfl hHeld ?_ ?_; rotate_left
     ·intro w hSw; (try dsimp only at hSw); go_simp; try (with_reducible rfl)
     (try simp only [la, lb, lc, ld, lf, lg, lh])
     refine wpAnyL_one (i := 6) (by kernel_rfl) rfl (fun K hK => ?_)
     (go_simp; go_at_call 125; refine (HBs.out _ (Below.drew (Below.refl _ wr))).mono ?_; rintro e wg ⟨v9, rfl, o9, b9⟩; obtain ⟨a9, n9, c9, rfl⟩ := Own.slice o9; have O9 := Lib.hid o9; have B9 := Lib.hid (bt (Below.drew (Below.refl _ wr)) b9); clear o9 b9)
     refine hK.out _ _ (HS10.out _ B9.out) (fun hHeld => ?_)
     clear hK K
     (try simp only [la, lb, lc, ld, lf, lg, lh])
     have hLa := (hA.out.below B9.out).st.first (Own.rsl O9.out (Nat.le_trans Haml.out (by omega))) Hamn.out Hamr.out Hams.out hC1 HK.out.lot ht1 Haml.out
     rw [Hxf.out] at hLa
     have HLa := Lib.hid hLa
     clear hLa
     refine wpAnyL_one (i := 7) (by kernel_rfl) rfl (fun K hK => ?_)
     (go_simp; go_at_call 126; refine HLa.out.mono ?_; rintro e W1 ⟨rfl, htl⟩; obtain ⟨vt1, hA1, hk1, hm1⟩ := (hA.out.below B9.out).tell2 htl; have f0 := (own_box (Below.refl _ W1) (size_of_box hA1.st.bc) hA1.st.bc).2.1 0; have HA1 := Lib.hid hA1; have Hk1 := Lib.hid hk1; have Hm1 := Lib.hid hm1; clear htl hA1 hk1 hm1)
     refine hK.out _ _ f0 (fun hHeld => ?_)
     clear hK K
     (try simp only [la, lb, lc, ld, lf, lg, lh])
     refine tk 8 ?_ rfl hHeld ?_ ?_; rotate_left
     ·intro w hSw; (try dsimp only at hSw); go_simp; try (with_reducible rfl)
     (try simp only [la, lb, lc, ld, lf, lg, lh])
     refine wpAnyL_done (by kernel_rfl) ?_ _
     have hEl1 := greElect { k with x := [some g, v1.ownBlock] } xf ve' vrd vt1 vr vst _ L (el ++ E) (el ++ E) rounds _ W1 hxfC hC1 he1 HA1.out.st
     have HEl1 := Lib.hid hEl1
     clear hEl1 f0
     go_upto_region 12 with (go_at_call 127; refine HEl1.out.mono ?_; rintro e W3 ⟨rfl, ve3, hs3, hk3, hm3⟩; have HA3 := Lib.hid (HA1.out.elect hs3 hk3 hm3); have Hk3 := Lib.hid hk3; have Hm3 := Lib.hid hm3; clear hs3 hk3 hm3)
     obtain ⟨a1, c1, hv1⟩ := Own.shape hO1.out
     rw [t4] at hv1
     have hO2 := Own.below (S := fun _ => False) (dInt.stable _ _) hO1.out B9.out
     have hnM1 : ∀ b, v1.ownBlock = some b → some b ∉ k.M ve' vrd vt1 vr vst := fun b hb hm => hnM.out b hb (GSt.mv (Mv.refl wg ve') (Mv.refl wg vrd) Hm1.out b (Own.lt hO2 b hb).2 hm)
     have hO4 := Hk1.out.own (S := fun _ => False) (dInt.stable _ _) hO2 (fun b hb => hnM.out b hb) (fun _ h => h.elim)
     have hO3 := Hk3.out.own (S := fun _ => False) (dInt.stable _ _) hO4 (fun b hb => hnM1 b hb) (fun _ h => h.elim)
     have hnM3 : ∀ b, v1.ownBlock = some b → some b ∉ k.M ve3 vrd vt1 vr vst := fun b hb hm => hnM1 b hb (GSt.mv Hm3.out (Mv.refl W1 vrd) (Mv.refl W1 vt1) b (Own.lt hO4 b hb).2 hm)
     have hgc4 : W3.cell? ⟨g, 4, none⟩ = some v1 := (own_box (Below.refl _ W3) (size_of_box HA3.out.box) HA3.out.box).2.1 4
     have hlg3 := size_of_box HA3.out.box
     have hz3 := HA3.out.keep.size
     have HO3 := Lib.hid hO3; have HnM3 := Lib.hid hnM3
     clear hO2 hO3 hO4 hnM1 hnM3 HEl1 HLa Hm1 Hm3 Hk1 Hk3 HA1 O9 B9 HBs HS10 hO1 hnM hA hI
     subst hv1
     go_upto_region 9 with (at_builtin; go_must (refine wpList_appJ W3 Tryz.infoInt rfl rfl Tryz.underlying25 wd.heap.size HO3.out rfl rfl hwx he2 hz3 ?_); intro a8 n8 c8 w8 ho8 hb8 hg8 hm8; have hA8 := RndA.grow (k := k) (X := [some g, (Value.slice a1 i c1).ownBlock]) (Y := [some g, (Value.slice a8 n8 c8).ownBlock]) HA3.out hg8 (fun b hb => ⟨by rw [← hb]; simp, HnM3.out b hb, (Own.lt HO3.out b hb).1⟩) (by simp) (fun b hb => by
      simp only [List.mem_cons, List.not_mem_nil, or_false] at hb
      rcases hb with e | e
      ·have e2 := Option.some.inj e; subst e2; exact ⟨Nat.lt_of_lt_of_le (Nat.lt_of_lt_of_le HA3.out.gl hz3) hg8.size, .inl (by simp)⟩
      ·refine ⟨(Own.lt ho8 b e.symm).2, ?_⟩
       rcases hm8 with h | ⟨c, h, hc⟩
       ·exact .inl (by rw [e, h]; simp)
       ·rw [h] at e; have e2 := Option.some.inj e; subst e2; exact .inr hc); have hnM8 : ∀ b, (Value.slice a8 n8 c8).ownBlock = some b → some b ∉ k.M ve3 vrd vt1 vr vst := (fun b hb => by
      rcases hm8 with h | ⟨c, h, hc⟩
      ·exact HnM3.out b (by rw [← h]; exact hb)
      ·rw [h] at hb; have e2 := Option.some.inj hb; subst e2; exact fun hm => by have := (HA3.out.st.low _ hm).2; omega); have hgf4 := (own_box (Below.refl _ w8) (size_of_box hA8.box) hA8.box).2.2 4; have hgc8 := (own_box (Below.refl _ w8) (size_of_box hA8.box) hA8.box).2.1 4; have HA8 := Lib.hid hA8; have HO8 := Lib.hid ho8; have HnM8 := Lib.hid hnM8; clear hA8 ho8 hb8 hg8 hm8 hnM8)
     obtain ⟨W9, hW9⟩ : ∃ W, W = w8.setCell ⟨g, 4, none⟩ (.slice a8 n8 c8) := ⟨_, rfl⟩
     rw [← hW9]
     have hA9 := (HA8.out.put (.slice a8 n8 c8)).1
     have hO9 : Own wd.heap.size 3 1 (dInt .i64) W9 (.slice a8 n8 c8) (E ++ [(xf : Int)]) := by
      rw [hW9]
      exact ((Keep.refl [some g] w8).setIn g 4 (.slice a8 n8 c8) (.inl (by simp))).own (S := fun _ => False) (dInt.stable _ _) HO8.out (fun b hb hm => by have h1 := (Own.lt HO8.out b hb).1; rw [List.mem_singleton] at hm; have e2 := Option.some.inj hm; have := HA3.out.gl; omega) (fun _ h => h.elim)
     rw [← hW9] at hA9
     have hIn9 := greIn k.gc k.C vst _ _ W9 hC1 (hA9.st.gro hC1 HK.out.val.len).st Hlasc2.out Hlrng2.out
     have HA9 := Lib.hid hA9; have HO9 := Lib.hid hO9; have HIn9 := Lib.hid hIn9
     clear hA9 hO9 hIn9 hW9 hgf4 hgc8 hgc4 hlg3
     go_wp2_with (go_at_call 123; refine HIn9.out.mono ?_; rintro e W10 ⟨v10, rfl, o10, b10⟩; obtain ⟨a10, n10, c10, rfl⟩ := Own.slice o10; have O10 := Lib.hid o10; have B10 := Lib.hid b10; clear o10 b10)
     have hl10 : n10 = (L.filter (fun y => !(y == (xf : Int)))).length := by have := RSl.len (Own.rsl O10.out (Nat.le_trans (List.length_filter_le _ L) (by omega))); exact this
     refine ⟨⟨i + 1, ve3, vt1, .slice a8 n8 c8, by omega, Lib.hid ?_, Lib.hid ?_, HnM8, ⟨_, _, _, rfl⟩, Lib.hid ?_⟩, ?_⟩
     ·rw [Hsi.out]
      have h1 := HA9.out.below B10.out
      simp only [List.append_assoc] at h1 ⊢
      exact h1
     ·rw [Hsi.out]; exact Own.below (S := fun _ => False) (dInt.stable _ _) HO9.out B10.out
     ·rw [Hsi.out]; exact RSl.mono (fun _ _ _ h => h) (fun _ _ => trivial) (Own.rsl O10.out (Nat.le_trans (List.length_filter_le _ L) (by omega)))
     ·have := Hlw.out; show n10 < L.length; omega
    ·obtain rfl : i = n5 := by omega
     have hl0 : (FF i).left = [] := List.eq_nil_of_length_eq_zero (by have := Hnl.out; omega)
     have hn0 : n = 0 := by rw [hlen, hl0]; rfl
     clear hlen
     subst hn0
     have hA2 := RndA.side (k := k) (X := [some g, v1.ownBlock]) (Y := [some g]) hA.out (Below.refl _ wr) (by simp) (fun b hb => by
      rw [List.mem_singleton, Option.some.injEq] at hb
      subst hb
      exact ⟨Nat.lt_of_lt_of_le hA.out.gl hA.out.keep.size, .inl (by simp)⟩)
     rw [hl0] at hA2
     have hr1 : RInts (Fr { k with x := [some g] } wd wr ve' vrd vt' vr vst) wr v1 (FF i).elected := RSl.mono (fun _ _ _ h => h) (fun b hb => ⟨(Own.lt hO1.out b hb).1, (Own.lt hO1.out b hb).2, hnM.out b hb⟩) (Own.rslo hO1.out (by have := Hnl.out; have := Hil.out; omega))
     have HA2 := Lib.hid hA2; have Hr1 := Lib.hid hr1
     clear hA2 hr1 hl0 hA hI hO1 hnM t1 t2 t3 t4 t5 t6
     go_wp2
     go_meet
     rw [← hs2, Hstp2.out]
     exact ⟨ve', vt', v1, .slice none 0 0, (FF i).elected, [], HA2.out, rfl, Hr1.out, RSl.nil⟩
  ·have hine : inn ≠ [] := fun e => by have := Hnl.out; rw [e] at this; simp at this; omega
   obtain ⟨x0, tl, hx7⟩ : ∃ x0 tl, bestL (gI had) inn = x0 :: tl := by
    rcases h : bestL (gI had) inn with _ | ⟨x0, tl⟩
    ·exact absurd h (bestL_ne hine)
    ·exact ⟨x0, tl, rfl⟩
   have hx0m : x0 ∈ bestL (gI had) inn := by rw [hx7]; exact List.mem_cons_self
   have hx0r := HK.out.rng x0 (bestL_mem.1 hx0m).1
   obtain ⟨xn, rfl⟩ : ∃ xn : Nat, x0 = (xn : Int) := ⟨x0.toNat, by omega⟩
   have hxC : xn < k.C := by omega
   have hO7 := O7.out
   rw [hx7] at hO7
   obtain ⟨g7, cp7, c70, hv7, -, -, -, h70, hd7⟩ := Own.at1 hO7 (k := 0) (by simp)
   obtain ⟨rfl, -⟩ := hd7.open
   simp only [Value.slice.injEq, List.length_cons] at hv7
   obtain ⟨rfl, hn7, -⟩ := hv7
   have hn70 : 0 < n7 := by omega
   have hn71 : (0 : Int) < (n7 : Int) := by omega
   have Hn7 := Lib.hid hn7
   clear hn7
   have hcH : ∀ W (x : Nat), Keep (some g :: k.M ve vrd vt vr vst) wd W → x < k.C → W.cell? ⟨w.heap.size, x, none⟩ = some (.int .i64 (gI had x)) ∧ W.cell? ⟨w1.heap.size, 0, none⟩ = some (.slice (some ⟨w.heap.size, 0, none⟩) k.C k.C) := fun W x hW hx => by
    obtain ⟨k1, k2⟩ := hKA W hW
    refine ⟨?_, (own_box (Below.refl _ W) (size_of_box k2) k2).2.1 0⟩
    rw [k1.cell (i := x) (by omega)]
    have := gI_at (l := had) (k := x) (by omega)
    rw [this]
   have HcH := Lib.hid hcH; have Hx7 := Lib.hid hx7; have HO7 := Lib.hid hO7
   have hw1 : IntKind.i64.wrap ((seats : Int) - (ne : Int)) = (seats : Int) - ne := by rw [IntKind.wrap_i64]; omega
   have hlf : ¬ ((n5 : Int) ≤ (seats : Int) - ne) := by omega
   clear hcH hKA hO7 hx7 hine hd7
   go_wp2
   go_still (by kernel_rfl)
   obtain ⟨we, hwe⟩ : ∃ W : World, W = { heap := wd.heap, tape := wd.tape, drawn := wd.drawn + 1, os := wd.os, output := wd.output } := ⟨_, rfl⟩
   rw [← hwe]
   have hbe : Below wd.heap.size wd we := by rw [hwe]; exact Below.drew (Below.refl _ _)
   have h70e : we.cell? ⟨g7, 0, none⟩ = some (.int .i64 xn) := (Same.of_below (S := Any) hbe).cell trivial h70
   obtain ⟨h1c, h2c⟩ := HcH.out we xn (Keep.of_below hbe) hxC
   have hAe := HA0.out.below hbe
   obtain ⟨e0, e2, e3, e4, ee0⟩ := Hstp.out _ _ _ _ _ _ _ _ hAe.st
   have HAe := Lib.hid hAe; have Hbe := Lib.hid hbe
   clear hbe hAe hwe h70 p0 p3 p4 pe hw1 hlf
   obtain ⟨hv0, hhv0⟩ : ∃ v, gI had (xn : Int) = v := ⟨_, rfl⟩
   rw [hhv0] at h1c
   have hsq : Sq.had (greR k.C k.Q k.votes) ⟨rv, inn, el, rounds, ties⟩ = had := Hhad.out
   have hsl : Sq.lost (greR k.C k.Q k.votes) ⟨rv, inn, el, rounds, ties⟩ = lost := Hlost.out
   have hnf : ¬ inn.length + el.length ≤ seats := by rw [Hnl.out, Hne.out]; exact hfill
   have hams : (bestL (gI had) inn).Pairwise (fun a b => a ≤ b) := List.Pairwise.filter _ (HK.out.asc.imp fun h => by omega)
   have hamr : ∀ x ∈ bestL (gI had) inn, 0 ≤ x ∧ x < (k.C : Int) := fun x hx => HK.out.rng x (bestL_mem.1 hx).1
   have haml : (bestL (gI had) inn).length ≤ 1000000 := Nat.le_trans (List.length_filter_le _ _) Hil.out
   have hamn : bestL (gI had) inn ≠ [] := by rw [Hx7.out]; simp
   have hamI : ∀ W, Below wd.heap.size wd W → RInts (From wA.heap.size) W (.slice (some ⟨g7, 0, none⟩) n7 c7) (bestL (gI had) inn) := fun W hW => RInts.same (.of_below hW) (Own.rsl O7.out (by omega))
   have htl10 := HK.out.tlen
   have helr := HK.out.elen
   by_cases hre : k.Q ≤ hv0
   ·have hfm := firstL_mem (lot := k.lot) (among := bestL (gI had) inn) ⟨(xn : Int), (HK.out.lot.all _).2 hx0r, by rw [Hx7.out]; exact List.mem_cons_self⟩
    have hfr := hamr _ hfm.1
    have hfv : gI had (firstL k.lot (bestL (gI had) inn)) = hv0 := by
     have h1 := (bestL_mem.1 hfm.1).2 _ (bestL_mem.1 (show (xn : Int) ∈ bestL (gI had) inn by rw [Hx7.out]; exact List.mem_cons_self)).1
     have h2 := (bestL_mem.1 (show (xn : Int) ∈ bestL (gI had) inn by rw [Hx7.out]; exact List.mem_cons_self)).2 _ (bestL_mem.1 hfm.1).1
     omega
    have hrb : Sq.reach (greR k.C k.Q k.votes) ⟨rv, inn, el, rounds, ties⟩ = true := by
     show (inn.any fun x => decide (k.Q ≤ gI (greH k.C k.Q rv inn el) x)) = true
     rw [Hhad.out]
     exact List.any_eq_true.2 ⟨_, (bestL_mem.1 hfm.1).1, by rw [hfv]; simpa using hre⟩
    obtain ⟨xf, hxf⟩ : ∃ xf : Nat, firstL k.lot (bestL (gI had) inn) = (xf : Int) := ⟨(firstL k.lot (bestL (gI had) inn)).toNat, by omega⟩
    have hstp : step (greR k.C k.Q k.votes) seats k.lot ⟨rv, inn, el, rounds, ties⟩ = ⟨rv.map (passG inn k.Q xf hv0), inn.filter (fun y => !(y == (xf : Int))), el ++ [(xf : Int)], rounds ++ [⟨had.map bill, bill lost, [(xf : Int)], []⟩], ties ++ tieL (bestL (gI had) inn) xf⟩ := by
     unfold step
     rw [if_neg hnf, if_pos hrb]
     have hb : Sq.best (greR k.C k.Q k.votes) ⟨rv, inn, el, rounds, ties⟩ = bestL (gI had) inn := by rw [Sq.best, hsq]
     rw [hb, hxf, Sq.rnd, hsq, hsl]
     show Sq.mk (rv.map (passG inn k.Q xf (gI (greH k.C k.Q rv inn el) xf))) _ _ _ _ = _
     rw [Hhad.out, ← hxf, hfv]
    have hxfC : xf < k.C := by omega
    have hvb : 1 ≤ hv0 ∧ hv0 ≤ 1000000000000000 := by
     have h1 := HK.out.q
     refine ⟨by omega, ?_⟩
     have h2 := gI_at (l := had) (k := xf) (by rw [hlh]; exact hxfC)
     rw [← hxf, hfv] at h2
     rw [h2]
     exact (Hhb.out _ (by rw [Hhad.out]; exact List.getElem_mem _)).2
    rw [hxf] at hfv
    have Hstp2 := Lib.hid hstp; have Hfv := Lib.hid hfv
    clear hstp hrb hfm hfr hfv hsq hsl hnf
    go_wp2
    go_still (by kernel_rfl)
    obtain ⟨wf, hwf⟩ : ∃ W : World, W = { heap := we.heap, tape := we.tape, drawn := we.drawn + 1, os := we.os, output := we.output } := ⟨_, rfl⟩
    rw [← hwf]
    have hbf : Below we.heap.size we wf := by rw [hwf]; exact Below.drew (Below.refl _ _)
    have hAf := HAe.out.below hbf
    have hFi := hAf.st.first (hamI wf (bt Hbe.out hbf)) hamn hamr hams (by show k.C ≤ 1000; omega) HK.out.lot (by omega) haml
    rw [hxf] at hFi
    obtain ⟨q0, q2, q3, q4, qe0⟩ := Hstp.out _ _ _ _ _ _ _ _ hAf.st
    have HFi := Lib.hid hFi; have HAf := Lib.hid hAf
    clear hFi hAf hwf hbf hams hamr haml hamn hamI hxf
    have hwx : (Lit.int .i64 (xf : Int)).wf = true := WalkArith.wf_i64 (by omega)
    have hC1 : k.C ≤ 1000 := by omega
    have hQ1 : 0 ≤ k.Q ∧ k.Q ≤ hv0 := by have := HK.out.q; omega
    have hee1 : el.length ≤ 1000000 := by omega
    go_wp2_with (first
     | (go_at_call 126; refine HFi.out.mono ?_; rintro e W1 ⟨rfl, htl⟩; obtain ⟨vt1, hA1⟩ := HAf.out.tell htl; have hb1 := (HcH.out W1 xf hA1.keep hxfC).1; have hb2 := (HcH.out W1 xf hA1.keep hxfC).2; rw [Hfv.out] at hb1; have HA1 := Lib.hid hA1; have HPa := Lib.hid (hA1.st.doPass hC1 HK.out.val HK.out.v9 xf hv0 hQ1 hvb); clear htl hA1)
     | (go_at_call 128; refine HPa.out.mono ?_; rintro e W2 ⟨rfl, hO2, hk2⟩; have hA2 := HA1.out.pass hO2 hk2; have HA2 := Lib.hid hA2; have HEl := Lib.hid (greElect { k with x := [some g] } xf ve vrd vt1 vr vst _ inn el el rounds _ W2 hxfC hC1 hee1 hA2.st); clear hO2 hk2 hA2)
     | (go_at_call 127; refine HEl.out.mono ?_; rintro e W3 ⟨rfl, ve3, hs3, hk3, hm3⟩; have hA3 := HA2.out.elect hs3 hk3 hm3; have hlg3 := size_of_box hA3.box; have hgc3 := (own_box (Below.refl _ W3) (size_of_box hA3.box) hA3.box).2.1 4; have hgf3 := (own_box (Below.refl _ W3) (size_of_box hA3.box) hA3.box).2.2 4; have HA3 := Lib.hid hA3; clear hs3 hk3 hm3 hA3))
    go_meet
    rw [← hs2, Hstp2.out]
    have hA4 := (HA3.out.put (.slice (some ⟨W3.heap.size, 0, none⟩) 1 1)).1.below (below_new _ (.cells #[.int .i64 xf] 3))
    exact ⟨ve3, vt1, _, _, [(xf : Int)], [], hA4, rfl, HA3.out.one hwx _ 4, RSl.nil⟩
   ·have hlemn : bestL (fun y => - gI had y) inn ≠ [] := bestL_ne (fun e => by have := Hnl.out; rw [e] at this; simp at this; omega)
    have hlemr : ∀ x ∈ bestL (fun y => - gI had y) inn, 0 ≤ x ∧ x < (k.C : Int) := fun x hx => HK.out.rng x (bestL_mem.1 hx).1
    have hlems : (bestL (fun y => - gI had y) inn).Pairwise (fun a b => a ≤ b) := List.Pairwise.filter _ (HK.out.asc.imp fun h => by omega)
    have hleml : (bestL (fun y => - gI had y) inn).length ≤ 1000000 := Nat.le_trans (List.length_filter_le _ _) Hil.out
    have hl2 := lot_reverse HK.out.lot
    obtain ⟨y1, hy1⟩ := List.exists_mem_of_ne_nil _ hlemn
    have hfm := firstL_mem (lot := k.lot.reverse) (among := bestL (fun y => - gI had y) inn) ⟨y1, (hl2.all _).2 (hlemr y1 hy1), hy1⟩
    have hfr := hlemr _ hfm.1
    have hfin := (bestL_mem.1 hfm.1).1
    have hrb : Sq.reach (greR k.C k.Q k.votes) ⟨rv, inn, el, rounds, ties⟩ = false := by
     show (inn.any fun x => decide (k.Q ≤ gI (greH k.C k.Q rv inn el) x)) = false
     rw [Hhad.out, List.any_eq_false]
     intro y hy
     have h2 := (bestL_mem.1 (show (xn : Int) ∈ bestL (gI had) inn by rw [Hx7.out]; exact List.mem_cons_self)).2 y hy
     simp; omega
    obtain ⟨xf, hxf⟩ : ∃ xf : Nat, firstL k.lot.reverse (bestL (fun y => - gI had y) inn) = (xf : Int) := ⟨(firstL k.lot.reverse (bestL (fun y => - gI had y) inn)).toNat, by omega⟩
    have hstp : step (greR k.C k.Q k.votes) seats k.lot ⟨rv, inn, el, rounds, ties⟩ = ⟨rv, inn.filter (fun y => !(y == (xf : Int))), el, rounds ++ [⟨had.map bill, bill lost, [], [(xf : Int)]⟩], ties ++ tieL (bestL (fun y => - gI had y) inn) xf⟩ := by
     unfold step
     rw [if_neg hnf, if_neg (by rw [hrb]; simp)]
     have hb : Sq.least (greR k.C k.Q k.votes) ⟨rv, inn, el, rounds, ties⟩ = bestL (fun y => - gI had y) inn := by rw [Sq.least, hsq]
     rw [hb, hxf, Sq.rnd, hsq, hsl]
     rfl
    have hxfC : xf < k.C := by omega
    have hxe : (xf : Int) ∉ el := HK.out.apart _ (by rw [← hxf]; exact hfin)
    have hgb9 : ∀ x ∈ inn, -4000000000000000000 ≤ gI had x ∧ gI had x ≤ 4000000000000000000 := fun x hx => by
     have h1 := HK.out.rng x hx
     have h2 := gI_at (l := had) (k := x.toNat) (by omega)
     rw [show ((x.toNat : Nat) : Int) = x by omega] at h2
     rw [h2]
     have := Hhb.out _ (by rw [Hhad.out]; exact List.getElem_mem (n := x.toNat) (by omega))
     omega
    have hLe : ∀ W, Below wA.heap.size wA W → Calls Tryz.prog 130 #[.slice a5 n5 c5, .func (.func 122) #[] #[.pointer (some ⟨w1.heap.size, 0, none⟩)]] W (GivesI (bestL (fun y => - gI had y) inn) W) := fun W hW =>
     choLeast Any (.slice a5 n5 c5) inn W (RInts.same (.of_below hW) (RSl.mono (fun _ _ _ h => h) (fun _ _ => trivial) Hin5.out)) Hil.out 122 #[.pointer (some ⟨w1.heap.size, 0, none⟩)] Heg.out (gI had) hgb9 (fun W' x hW' hx => HR1.out W' x (bt hW hW') (HK.out.rng x hx))
    have Hstp2 := Lib.hid hstp; have HLe := Lib.hid hLe
    clear hstp hrb hfm hfr hfin hsq hsl hnf hgb9 hLe hy1 hl2
    go_wp2
    go_still (by kernel_rfl)
    obtain ⟨wf, hwf⟩ : ∃ W : World, W = { heap := we.heap, tape := we.tape, drawn := we.drawn + 1, os := we.os, output := we.output } := ⟨_, rfl⟩
    rw [← hwf]
    have hbf : Below we.heap.size we wf := by rw [hwf]; exact Below.drew (Below.refl _ _)
    have hAf := HAe.out.below hbf
    have hbcf := bt B7.out (bt Hbe.out hbf)
    have Hbcf := Lib.hid hbcf; have HAf := Lib.hid hAf
    clear hwf hbf hbcf hAf hams hamr haml hamn hamI
    have hwx : (Lit.int .i64 (xf : Int)).wf = true := WalkArith.wf_i64 (by omega)
    have hC1 : k.C ≤ 1000 := by omega
    have ht1 : ties.length ≤ 1000000 := by omega
    have HS4 : Hid (∀ W, Below wf.heap.size wf W → W.cell? ⟨k.gc, 0, none⟩ = some (.pointer (some ⟨k.gC, 0, none⟩))) := Lib.hid fun W hW => (Hstp.out _ _ _ _ _ _ _ _ (HAf.out.below hW).st).1
    have Hlems := Lib.hid hlems; have Hlemr := Lib.hid hlemr; have Hlemn := Lib.hid hlemn; have Hleml := Lib.hid hleml; have Hxf := Lib.hid hxf
    clear hlems hlemr hlemn hleml hxf e0 e2 e3 e4 ee0
    go_upto_region 4 with fail
    refine wp_region_L (S := (fun W' : World => W'.cell? ⟨k.gc, 0, none⟩ = some (.pointer (some ⟨k.gC, 0, none⟩)))) (L := []) (by kernel_rfl) (HS4.out _ (Below.drew (Below.refl _ wf))) (fun hHeld => ?_)
    refine tk 0 ?_ rfl hHeld ?_ ?_; rotate_left
    ·intro w hSw; (try dsimp only at hSw); go_simp; try (with_reducible rfl)
    (try simp only [la, lb, lc, ld, lf, lg, lh])
    refine tk 1 ?_ rfl hHeld ?_ ?_; rotate_left
    ·intro w hSw; (try dsimp only at hSw); go_simp; try (with_reducible rfl)
    (try simp only [la, lb, lc, ld, lf, lg, lh])
    refine tk 2 ?_ rfl hHeld ?_ ?_; rotate_left
    ·intro w hSw; (try dsimp only at hSw); go_simp; try (with_reducible rfl)
    (try simp only [la, lb, lc, ld, lf, lg, lh])
    refine tk 3 ?_ rfl hHeld ?_ ?_; rotate_left
    ·intro w hSw; (try dsimp only at hSw); go_simp; try (with_reducible rfl)
    (try simp only [la, lb, lc, ld, lf, lg, lh])
    refine tk 4 ?_ rfl hHeld ?_ ?_; rotate_left
    ·intro w hSw; (try dsimp only at hSw); go_simp; try (with_reducible rfl)
    (try simp only [la, lb, lc, ld, lf, lg, lh])
    refine tk 5 ?_ rfl hHeld ?_ ?_; rotate_left
    ·intro w hSw; (try dsimp only at hSw); go_simp; try (with_reducible rfl)
    (try simp only [la, lb, lc, ld, lf, lg, lh])
    refine wpAnyL_one (i := 6) (by kernel_rfl) rfl (fun K hK => ?_)
    (go_simp; go_at_call 130; refine (HLe.out _ (bt Hbcf.out (Below.drew (Below.refl _ wf)))).mono ?_; rintro e wg ⟨v9, rfl, o9, b9⟩; obtain ⟨a9, n9, c9, rfl⟩ := Own.slice o9; have O9 := Lib.hid o9; have B9 := Lib.hid (bt (Below.drew (Below.refl _ wf)) b9); clear o9 b9)
    refine hK.out _ _ (HS4.out _ B9.out) (fun hHeld => ?_)
    clear hK K
    (try simp only [la, lb, lc, ld, lf, lg, lh])
    have hLa := (HAf.out.below B9.out).st.last (Own.rsl O9.out (Nat.le_trans Hleml.out (by omega))) Hlemn.out Hlemr.out Hlems.out hC1 HK.out.lot ht1 Hleml.out
    rw [Hxf.out] at hLa
    have HLa := Lib.hid hLa
    clear hLa
    refine wpAnyL_one (i := 7) (by kernel_rfl) rfl (fun K hK => ?_)
    (go_simp; go_at_call 129; refine HLa.out.mono ?_; rintro e W1 ⟨rfl, htl⟩; obtain ⟨vt1, hA1⟩ := (HAf.out.below B9.out).tell htl; obtain ⟨f0, f2, f3, f4, fe0⟩ := Hstp.out _ _ _ _ _ _ _ _ hA1.st; have HA1 := Lib.hid hA1; clear htl hA1)
    refine hK.out _ _ f0 (fun hHeld => ?_)
    clear hK K
    (try simp only [la, lb, lc, ld, lf, lg, lh])
    refine tk 8 ?_ rfl hHeld ?_ ?_; rotate_left
    ·intro w hSw; (try dsimp only at hSw); go_simp; try (with_reducible rfl)
    (try simp only [la, lb, lc, ld, lf, lg, lh])
    refine wpAnyL_done (by kernel_rfl) ?_ _
    obtain ⟨gs, cs, cx, hvs, -, hsl2, hfz, hcx, -⟩ := Own.at1 HA1.out.st.os (k := xf) (by rw [stL_length]; exact hxfC)
    rw [stL_length] at hvs
    have hgs : vst.ownBlock = some gs := by rw [hvs]; rfl
    have hA2 := HA1.out.state hxfC hgs (.iface 151 (.agg #[.bool false])) rfl (stL_outed (inn := inn) hxe)
    rw [hvs] at f2
    have hff := hfz xf
    have HA2 := Lib.hid hA2
    clear hA2 hfz
    go_upto_region 6 with fail
    obtain ⟨W2, hW2⟩ : ∃ W, W = W1.setCell ⟨gs, xf, none⟩ (.iface 151 (.agg #[.bool false])) := ⟨_, rfl⟩
    rw [← hW2] at HA2 ⊢
    have hgc5 := (own_box (Below.refl _ W2) (size_of_box HA2.out.box) HA2.out.box).2.1 5
    have hgf5 := (own_box (Below.refl _ W2) (size_of_box HA2.out.box) HA2.out.box).2.2 5
    have hlg2 := size_of_box HA2.out.box
    clear hcx hff f0 f2 f3 f4 fe0 hW2
    go_wp2
    go_meet
    rw [← hs2, Hstp2.out]
    have hA4 := (HA2.out.put (.slice (some ⟨W2.heap.size, 0, none⟩) 1 1)).2.below (below_new _ (.cells #[.int .i64 xf] 3))
    exact ⟨ve, vt1, _, _, [], [(xf : Int)], hA4, rfl, RSl.nil, HA2.out.one hwx _ 5⟩
 obtain ⟨ve', vt', v1, v2, e5, o5, hA, hro, hv1, hv2⟩ := hcut
 obtain ⟨aE, cE, hvE, -, -⟩ := RSl.shape hv1
 obtain ⟨aO, cO, hvO, -, -⟩ := RSl.shape hv2
 obtain ⟨aH, cH, hvH, -, -⟩ := RSl.shape Hvh.out
 obtain ⟨aN, cN, hvN, -, -⟩ := RSl.shape Hvn.out
 obtain ⟨aD, cD, hvD, -, -⟩ := RSl.shape Hvd.out
 obtain ⟨aR, cR, hvR⟩ := Own.shape hA.st.ord
 obtain ⟨nH, hnH⟩ : ∃ n, (had.map bill).length = n := ⟨_, rfl⟩
 rw [hnH] at hvH
 clear hnH
 have hbd := bt Hbc.out B7.out
 have hbig := HGb.out.big
 have hsm : Same (Nb wb g wA) wd wc := hA.keep.same fun b hb hm => by
  rcases List.mem_cons.1 hm with e | e
  ·exact hb.2.2 (Option.some.inj e)
  ·have := (HGb.out.low b e).2; have := hb.1; omega
 have hup : ∀ W b, Below wc.heap.size wc W → Nb wb g wA b → GCn.R { k with x := [some g] } W ve' vrd vt' vr vst b := fun W b hW hb => by
  refine ⟨by have := hb.1; show k.gc + 1 ≤ b; omega, by have h1 := hb.2.1; have h2 := hW.size; have h3 := hA.keep.size; have h4 := B7.out.size; omega, fun hm => ?_⟩
  rcases List.mem_cons.1 hm with e | e
  ·exact hb.2.2 (Option.some.inj e)
  ·have h1 := GSt.mv (k := k) (vr := vr) (vst := vst) hA.m1 (Mv.refl wd vrd) hA.m2 b (by have := hb.2.1; have := B7.out.size; omega) e
   have := (HGb.out.low b h1).2; have := hb.1; omega
 have hfr : ∀ W b, Below wc.heap.size wc W → Fr { k with x := [some g] } wd wc ve' vrd vt' vr vst b → GCn.R { k with x := [some g] } W ve' vrd vt' vr vst b := fun W b hW hb => by
  have h4 := B7.out.size
  have h5 := Hbc.out.size
  refine ⟨by have := hb.1; show k.gc + 1 ≤ b; omega, Nat.lt_of_lt_of_le hb.2.1 hW.size, fun hm => ?_⟩
  rcases List.mem_cons.1 hm with e | e
  ·have := Option.some.inj e; have := hb.1; omega
  ·exact hb.2.2 e
 have hy : ∀ W, Below wc.heap.size wc W → dRnd (GCn.R { k with x := [some g] } W ve' vrd vt' vr vst) W [vh, .bool false, vn, vd, v1, v2] ⟨had.map bill, bill lost, e5, o5⟩ := fun W hW => by
  have s1 : Same (Nb wb g wA) wA W := fun b hb hs => ((hW.block b (Nat.lt_of_lt_of_le hb (Nat.le_trans B7.out.size hA.keep.size))).trans (hsm b (Nat.lt_of_lt_of_le hb B7.out.size) hs)).trans (B7.out.block b hb)
  exact ⟨vh, vn, vd, v1, v2, rfl, (Hvh.out.same s1).mono (fun b hb => hup W b hW hb), (Hvn.out.same s1).mono (fun b hb => hup W b hW hb), (Hvd.out.same s1).mono (fun b hb => hup W b hW hb), RInts.mono (fun b hb => hfr W b hW hb) (hv1.same (.of_below hW)), RInts.mono (fun b hb => hfr W b hW hb) (hv2.same (.of_below hW))⟩
 have hS : ∀ W : World, W.heap[k.gc]? = some (.cells #[.pointer (some ⟨k.gC, 0, none⟩), vr, vst, .int .i64 k.seats, .int .i64 k.Q, .int .i64 k.votes] 91 (0, 0)) → W.heap[k.gC]? = some (.cells #[ve', vrd, vt', k.vl] 97 (0, 0)) → W.heap[g]? = some (.cells #[vh, .bool false, vn, vd, v1, v2] 58 (0, 0)) →
   W.cell? ⟨k.gc, 0, none⟩ = some (.pointer (some ⟨k.gC, 0, none⟩)) ∧ W.cell? ⟨k.gC, 1, none⟩ = some vrd ∧ W.cell? ⟨g, 0, none⟩ = some vh ∧ W.cell? ⟨g, 1, none⟩ = some (.bool false) ∧ W.cell? ⟨g, 2, none⟩ = some vn ∧ W.cell? ⟨g, 3, none⟩ = some vd ∧ W.cell? ⟨g, 4, none⟩ = some v1 ∧ W.cell? ⟨g, 5, none⟩ = some v2 := fun W h1 h2 h3 => by
  have c1 := (own_box (Below.refl _ W) (size_of_box h1) h1).2.1
  have c2 := (own_box (Below.refl _ W) (size_of_box h2) h2).2.1
  have c3 := (own_box (Below.refl _ W) (size_of_box h3) h3).2.1
  exact ⟨c1 0, c2 1, c3 0, c3 1, c3 2, c3 3, c3 4, c3 5⟩
 have hrl : rounds.length ≤ 1000000 := by have := HK.out.rlen; omega
 have HS := Lib.hid hS; have HY := Lib.hid hy; have HA := Lib.hid hA; have Hro := Lib.hid hro; have Hrl := Lib.hid hrl
 have HvE := Lib.hid hvE; have HvO := Lib.hid hvO; have HvH := Lib.hid hvH; have HvN := Lib.hid hvN; have HvD := Lib.hid hvD; have HvR := Lib.hid hvR
 have hlo : ∀ W, Keep (some g :: k.M ve vrd vt vr vst) wd W → Below k.lo w W := fun W hW => by
  have l1 := HG.out.l1
  have l2 := HG.out.l2
  have hz := HG.out.big
  have h4 := bt Bb.out hbd
  have h5 := h4.size
  refine (h4.mono (by omega)).trans (hW.below (fun b hb hm => ?_) (by omega))
  rcases List.mem_cons.1 hm with e | e
  ·have := Option.some.inj e; have := Bb.out.size; omega
  ·have := (HG.out.low b e).1; omega
 have Hlo := Lib.hid hlo
 clear hS hy hA hro hrl hup hfr hsm hvE hvO hvH hvN hvD hvR hlo hv1 hv2
 have hg1 := HvE.out; subst hg1; have hg2 := HvO.out; subst hg2; have hg3 := HvH.out; subst hg3; have hg4 := HvN.out; subst hg4; have hg5 := HvD.out; subst hg5; have hg6 := HvR.out; subst hg6
 go_upto_region 18 with fail
 have hD := HA.out.below (Below.drew (Below.refl _ wc))
 have HD := Lib.hid hD
 clear hD
 refine wp_region_L (S := (fun W : World => W.cell? ⟨k.gc, 0, none⟩ = some (.pointer (some ⟨k.gC, 0, none⟩)) ∧ W.cell? ⟨k.gC, 1, none⟩ = some (.slice aR rounds.length cR) ∧ W.cell? ⟨g, 0, none⟩ = some (.slice aH nH cH) ∧ W.cell? ⟨g, 1, none⟩ = some (.bool false) ∧ W.cell? ⟨g, 2, none⟩ = some (.slice aN (bill lost).num.length cN) ∧ W.cell? ⟨g, 3, none⟩ = some (.slice aD (bill lost).den.length cD) ∧ W.cell? ⟨g, 4, none⟩ = some (.slice aE e5.length cE) ∧ W.cell? ⟨g, 5, none⟩ = some (.slice aO o5.length cO))) (L := [18]) (by kernel_rfl) (HS.out _ HD.out.st.bc HD.out.st.bC HD.out.box) (fun hHeld => ?_)
 obtain ⟨X0, hX0⟩ : ∃ X, X = wc.drew := ⟨_, rfl⟩
 rw [← hX0] at HD ⊢
 have hHeld := HS.out _ HD.out.st.bc HD.out.st.bC HD.out.box
 have Q0 : Hid (Below wc.heap.size wc X0) := Lib.hid (by rw [hX0]; exact Below.drew (Below.refl _ wc))
 clear hX0
 refine tk 0 ?_ rfl hHeld ?_ ?_; rotate_left
 ·intro w hSw; (try dsimp only at hSw); go_simp; try (with_reducible rfl)
 (try simp only [la, lb, lc, ld, lf, lg, lh])
 refine tk 1 ?_ rfl hHeld ?_ ?_; rotate_left
 ·intro w hSw; (try dsimp only at hSw); go_simp; try (with_reducible rfl)
 (try simp only [la, lb, lc, ld, lf, lg, lh])
 refine tk 2 ?_ rfl hHeld ?_ ?_; rotate_left
 ·intro w hSw; (try dsimp only at hSw); go_simp; try (with_reducible rfl)
 (try simp only [la, lb, lc, ld, lf, lg, lh])
 refine tk 3 ?_ rfl hHeld ?_ ?_; rotate_left
 ·intro w hSw; (try dsimp only at hSw); go_simp; try (with_reducible rfl)
 (try simp only [la, lb, lc, ld, lf, lg, lh])
 refine tk 4 ?_ rfl hHeld ?_ ?_; rotate_left
 ·intro w hSw; (try dsimp only at hSw); go_simp; try (with_reducible rfl)
 (try simp only [la, lb, lc, ld, lf, lg, lh])
 refine tk 5 ?_ rfl hHeld ?_ ?_; rotate_left
 ·intro w hSw; (try dsimp only at hSw); go_simp; try (with_reducible rfl)
 (try simp only [la, lb, lc, ld, lf, lg, lh])
 refine tk 6 ?_ rfl hHeld ?_ ?_; rotate_left
 ·intro w hSw; (try dsimp only at hSw); go_simp; try (with_reducible rfl)
 (try simp only [la, lb, lc, ld, lf, lg, lh])
 refine tk 7 ?_ rfl hHeld ?_ ?_; rotate_left
 ·intro w hSw; (try dsimp only at hSw); go_simp; try (with_reducible rfl)
 (try simp only [la, lb, lc, ld, lf, lg, lh])
 refine tk 8 ?_ rfl hHeld ?_ ?_; rotate_left
 ·intro w hSw; (try dsimp only at hSw); go_simp; try (with_reducible rfl)
 (try simp only [la, lb, lc, ld, lf, lg, lh])
 refine tk 9 ?_ rfl hHeld ?_ ?_; rotate_left
 ·intro w hSw; (try dsimp only at hSw); go_simp; try (with_reducible rfl)
 (try simp only [la, lb, lc, ld, lf, lg, lh])
 refine tk 10 ?_ rfl hHeld ?_ ?_; rotate_left
 ·intro w hSw; (try dsimp only at hSw); go_simp; try (with_reducible rfl)
 (try simp only [la, lb, lc, ld, lf, lg, lh])
 refine tk 11 ?_ rfl hHeld ?_ ?_; rotate_left
 ·intro w hSw; (try dsimp only at hSw); go_simp; try (with_reducible rfl)
 (try simp only [la, lb, lc, ld, lf, lg, lh])
 refine tk 12 ?_ rfl hHeld ?_ ?_; rotate_left
 ·intro w hSw; (try dsimp only at hSw); go_simp; try (with_reducible rfl)
 (try simp only [la, lb, lc, ld, lf, lg, lh])
 have hB := HD.out.below (below_new X0 (.cells #[.slice aH nH cH, .bool false, .slice aN (bill lost).num.length cN, .slice aD (bill lost).den.length cD, .slice aE e5.length cE, .slice aO o5.length cO] 58))
 have HB := Lib.hid hB
 clear hB
 refine wpAnyL_one (i := 13) (by kernel_rfl) rfl (fun K hK => ?_)
 go_simp
 refine hK.out _ _ (HS.out _ HB.out.st.bc HB.out.st.bC HB.out.box) (fun hHeld => ?_)
 clear hK K
 (try simp only [la, lb, lc, ld, lf, lg, lh])
 refine wpAnyL_one (i := 14) (by kernel_rfl) rfl (fun K hK => ?_)
 (refine wp_appF1 _ Tryz.infoRnd rfl Tryz.underlying29 ⟨rfl, by omega, by omega, by omega⟩ (dRnd.one _) (dRnd.stable _) (k.gc + 1) HB.out.st.ord (fun b hb e => hb.2.2 (List.mem_append_right _ (by simp [GCn.M, e]))) rfl (box_new X0 (.cells #[.slice aH nH cH, .bool false, .slice aN (bill lost).num.length cN, .slice aD (bill lost).den.length cD, .slice aE e5.length cE, .slice aO o5.length cO] 58)) (cs := [.slice aH nH cH, .bool false, .slice aN (bill lost).num.length cN, .slice aD (bill lost).den.length cD, .slice aE e5.length cE, .slice aO o5.length cO]) rfl (HY.out _ (bt Q0.out (below_new _ _))) rfl Hrl.out HB.out.st.big ?_; intro a9 n9 c9 w9 ho9 hg9 hm9; have Ho9 := Lib.hid ho9; have Hg9 := Lib.hid hg9; have Hm9 := Lib.hid hm9; have Hx9 := Lib.hid ((Keep.of_grown hg9).box HB.out.box (fun hm => HB.out.out (by rw [List.mem_singleton] at hm; simp [GCn.M, hm]))); clear ho9 hg9 hm9)
 refine hK.out _ _ (HS.out _ (HB.out.st.grownR Hg9.out).1 (HB.out.st.grownR Hg9.out).2 Hx9.out) (fun hHeld => ?_)
 clear hK K
 (try simp only [la, lb, lc, ld, lf, lg, lh])
 refine wpAnyL_one (i := 15) (by kernel_rfl) rfl (fun K hK => ?_)
 go_simp
 refine hK.out _ _ (HS.out _ (HB.out.st.grownR Hg9.out).1 (HB.out.st.grownR Hg9.out).2 Hx9.out) (fun hHeld => ?_)
 clear hK K
 (try simp only [la, lb, lc, ld, lf, lg, lh])
 refine wpAnyL_one (i := 16) (by kernel_rfl) rfl (fun K hK => ?_)
 go_simp
 refine hK.out _ _ (HS.out _ (HB.out.st.grownR Hg9.out).1 (HB.out.st.grownR Hg9.out).2 Hx9.out) (fun hHeld => ?_)
 clear hK K
 (try simp only [la, lb, lc, ld, lf, lg, lh])
 refine tk 17 ?_ rfl hHeld ?_ ?_; rotate_left
 ·intro w hSw; (try dsimp only at hSw); go_simp; try (with_reducible rfl)
 (try simp only [la, lb, lc, ld, lf, lg, lh])
 have hfr9 := (own_box (Below.refl _ w9) (size_of_box (HB.out.st.grownR Hg9.out).2) (HB.out.st.grownR Hg9.out).2).2.2 1
 refine wpAnyL_last (i := 18) (by kernel_rfl) rfl (by kernel_rfl) (fun K hK => ?_)
 go_simp
 refine hK.out _ _ ?_
 clear hK K
 (try simp only [la, lb, lc, ld, lf, lg, lh])
 refine wpAnyL_done (by kernel_rfl) ?_ _
 have hO9 : Own (k.gc + 1) 58 6 (dRnd (GCn.R { k with x := [some g] } w9 ve' (.slice a9 n9 c9) vt' vr vst)) w9 (.slice a9 n9 c9) (rounds ++ [⟨had.map bill, bill lost, e5, o5⟩]) :=
  Own.dmono (fun _ _ hd => dRnd.mono (GSt.kr (k := { k with x := [some g] }) (K := [(Value.ownBlock (.slice aR rounds.length cR), 58)]) (Keep.of_grown Hg9.out) (GSt.mv (Mv.refl _ _) Hm9.out (Mv.refl _ _))) hd) Ho9.out
 obtain ⟨f1, f2⟩ := HB.out.st.rounded hO9 Hg9.out Hm9.out
 rw [← Hro.out] at f1
 have f3 : GSt k _ _ _ _ _ _ _ _ _ _ _ _ := GSt.side (k := k) (X := [some g]) (Y := k.x) f1 (Below.refl _ _) (fun b hb => by rw [hkx] at hb; cases hb)
 have hb0 := Hlo.out _ HB.out.keep
 have hb1 : Below k.lo w (w9.setCell ⟨k.gC, 1, none⟩ (.slice a9 n9 c9)) := hb0.trans (f2.below (fun b hb hm => by
  simp only [List.mem_cons, List.not_mem_nil, or_false] at hm
  have l1 := HG.out.l1
  rcases hm with e | e
  ·have := Option.some.inj e; have : b = k.gC := this; omega
  ·have := (HB.out.st.low b (by simp [GCn.M, e])).1; have : k.gC ≤ b := this; omega) (by have := hb0.size; have := HG.out.big; have := HG.out.l1; have := HG.out.l2; omega))
 have F3 := Lib.hid f3; have Hb1 := Lib.hid hb1
 clear f1 f2 f3 hO9 hb0 hb1
 go_wp2
 go_returns
 exact ⟨rfl, ⟨_, _, _, F3.out⟩, Hb1.out⟩
end Go.Proofs.YthcbkhfmdginiaaGreat
