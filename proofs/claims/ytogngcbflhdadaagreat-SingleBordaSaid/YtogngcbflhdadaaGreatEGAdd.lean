/- Texts of one claim, put together: ProfF, ProfG, ProfH, Ins, ProfI, ProfJ, ProfK, ProfL. -/
import Derived.Test.YtogngcbflhdadaaGreatEGProf
import Derived.Test.YtogngcbflhdadaaGreatEGPut
import Derived.Test.YtogngcbflhdadaaGreatEGCan
import Derived.Lib.Overlaps
import Derived.Lib.AppendZerosOnto
import Derived.Laws.Externs
import Derived.Lib.Walk
import Derived.Shelf.RegionOpenPlain
import Derived.Handy

/- The contracts of profile.Check, may and whole. -/
namespace Go.Proofs.YtogngcbflhdadaaGreat
open Go Go.RowKit Go.Shelf

set_option maxHeartbeats 4000000 in
set_option maxRecDepth 100000 in
theorem profCheck (S : Nat → Prop) (v : Value) (p : Prof) (w : World) (h : VProf S w v p) :
    Calls Tryz.prog 57 #[v] w fun e w' => e = .returned (.int .i64 (chkP p)) ∧ Below w.heap.size w w' := by
  obtain ⟨a1, c1, rfl, hk1, hk2, hR⟩ := h
  by_cases hl : 64 < p.rows.length
  · have hr : chkP p = 9 := by rw [chkP, if_pos hl]
    rw [hr]
    obtain ⟨pc, pk, rows⟩ := p
    simp only at hk1 hk2 hR hl ⊢
    clear hr hR
    go_enter Tryz.func57, Tryz.ntmps57
    go_wp2
    go_ret
    exact ⟨rfl, below_new _ _⟩
  have hr : chkP p = if fineP p && newOk p.cands p.kind then (if 1000000 < sumR p.rows then 4 else 0) else 8 := by rw [chkP, if_neg hl]
  have hN := fun W => profNew p.cands p.kind W
  have hni : newI p.cands p.kind = if newOk p.cands p.kind then 0 else 2 := rfl
  have hsum : fineP p = true → 0 ≤ sumR p.rows := fun h => sumR_nonneg (fineP_iff.1 h).1
  obtain ⟨W0, hW0⟩ : ∃ W0, W0 = ((w.alloc (.cells #[.int .i64 p.cands, .int .u8 p.kind, .slice a1 p.rows.length c1] 24)).alloc (.cells #[.int .i64 0] 3)).alloc (.cells #[.bool true] 4) := ⟨_, rfl⟩
  have hb0 : Below w.heap.size w W0 := by rw [hW0]; exact ((below_new w _).alloc (by simp) _).alloc (by simp; omega) _
  have hz0 : W0.heap.size = w.heap.size + 3 := by rw [hW0]; simp
  have g0 : W0.heap[w.heap.size]? = some (.cells #[.int .i64 p.cands, .int .u8 p.kind, .slice a1 p.rows.length c1] 24 (0, 0)) := by rw [hW0]; exact box_old _ (box_old _ (box_new _ _))
  have g1 : W0.heap[w.heap.size + 1]? = some (.cells #[.int .i64 0] 3 (0, 0)) := by
    rw [hW0]
    have := box_new (w.alloc (.cells #[.int .i64 p.cands, .int .u8 p.kind, .slice a1 p.rows.length c1] 24)) (.cells #[.int .i64 0] 3)
    rw [World.size_alloc] at this
    exact box_old _ this
  have g2 : W0.heap[w.heap.size + 2]? = some (.cells #[.bool true] 4 (0, 0)) := by
    rw [hW0]
    have := box_new ((w.alloc (.cells #[.int .i64 p.cands, .int .u8 p.kind, .slice a1 p.rows.length c1] 24)).alloc (.cells #[.int .i64 0] 3)) (.cells #[.bool true] 4)
    rwa [World.size_alloc, World.size_alloc] at this
  have hA := allP (Cut S w.heap.size) w.heap.size (w.heap.size + 2) (w.heap.size + 1) w.heap.size p a1 c1 W0 (hR.cut.same (.of_below hb0)) g2 g1 g0 (by omega) (by omega) ⟨hk1, hk2⟩ (fun b hb => hb.2) (by omega)
  have hAll : ∀ e w1, AllGives w.heap.size (w.heap.size + 1) w.heap.size p W0 e w1 → e = .returned (.bool (fineP p)) ∧ Below w.heap.size w w1 ∧ w.heap.size + 3 ≤ w1.heap.size ∧
      w1.heap[w.heap.size]? = some (.cells #[.int .i64 p.cands, .int .u8 p.kind, .slice a1 p.rows.length c1] 24 (0, 0)) ∧
      (fineP p = true → w1.heap[w.heap.size + 1]? = some (.cells #[.int .i64 (min (sumR p.rows) 1000001)] 3 (0, 0))) := fun e w1 ⟨h1, h2, h3, h4⟩ =>
    ⟨h1, hb0.trans h2, by have := h2.size; omega, h4.trans g0, h3⟩
  have hA2 := hA.mono hAll
  obtain ⟨fb, hfb⟩ : ∃ fb, fineP p = fb := ⟨_, rfl⟩
  obtain ⟨nb, hnb⟩ : ∃ nb, newOk p.cands p.kind = nb := ⟨_, rfl⟩
  obtain ⟨sm, hsm⟩ : ∃ sm, sumR p.rows = sm := ⟨_, rfl⟩
  rw [hfb] at hA2 hr hsum
  rw [hnb] at hr hni
  rw [hsm] at hA2 hr hsum
  rw [hni] at hN
  have hw : -9223372036854775808 ≤ p.cands ∧ p.cands ≤ 9223372036854775807 ∨ True := .inr trivial
  generalize (newP p.cands p.kind).cands = nc at hN
  generalize (newP p.cands p.kind).kind = nk at hN
  have HA := Lib.hid hA2; have HN := Lib.hid hN
  clear hA hA2 hN hAll g0 g1 g2 hw hb0 hz0 hni hR
  subst hW0
  cases fb
  · have hr8 : chkP p = 8 := by rw [hr]; rfl
    rw [hr8]
    clear hr hr8 hsum
    cases nb
    all_goals
      go_enter Tryz.func57, Tryz.ntmps57
      go_wp2_with (first
        | (go_at_call 86; refine HA.out.mono ?_; rintro e w1 ⟨rfl, hb1, hz1, gp1, gs1⟩; obtain ⟨-, hc1, hf1⟩ := own_box (Below.refl _ w1) (size_of_box gp1) gp1; have Gs1 := Lib.hid gs1; clear gs1)
        | (go_at_call 91; refine (HN.out _).mono ?_; rintro e w2 ⟨rfl, hb2⟩; have hq2 := hb1.trans (hb2.mono hb1.size); have hz2 := hb2.size; have hy2 := hq2.size) )
      go_ret
      exact ⟨rfl, hq2.alloc hy2 _⟩
  cases nb
  · have hr8 : chkP p = 8 := by rw [hr]; rfl
    rw [hr8]
    clear hr hr8 hsum
    go_enter Tryz.func57, Tryz.ntmps57
    go_wp2_with (first
      | (go_at_call 86; refine HA.out.mono ?_; rintro e w1 ⟨rfl, hb1, hz1, gp1, gs1⟩; obtain ⟨-, hc1, hf1⟩ := own_box (Below.refl _ w1) (size_of_box gp1) gp1; have Gs1 := Lib.hid gs1; clear gs1)
      | (go_at_call 91; refine (HN.out _).mono ?_; rintro e w2 ⟨rfl, hb2⟩; have hq2 := hb1.trans (hb2.mono hb1.size); have hz2 := hb2.size; have hy2 := hq2.size) )
    go_ret
    exact ⟨rfl, hq2.alloc hy2 _⟩
  have hs0 := hsum rfl
  have HA3 := Lib.hid (HA.out.mono fun e w1 h => (show e = .returned (.bool true) ∧ Below w.heap.size w w1 ∧ w.heap.size + 3 ≤ w1.heap.size ∧ w1.heap[w.heap.size]? = some (.cells #[.int .i64 p.cands, .int .u8 p.kind, .slice a1 p.rows.length c1] 24 (0, 0)) ∧
    w1.heap[w.heap.size + 1]? = some (.cells #[.int .i64 (min sm 1000001)] 3 (0, 0)) from ⟨h.1, h.2.1, h.2.2.1, h.2.2.2.1, h.2.2.2.2 rfl⟩))
  clear HA
  by_cases hs : 1000000 < sm
  · have hr4 : chkP p = 4 := by rw [hr]; simp [hs]
    have hmn : 1000000 < min sm 1000001 := by omega
    rw [hr4]
    generalize min sm 1000001 = mn at *
    clear hr hr4 hsum
    go_enter Tryz.func57, Tryz.ntmps57
    go_wp2_with (first
      | (go_at_call 86; refine HA3.out.mono ?_; rintro e w1 ⟨rfl, hb1, hz1, gp1, gs1⟩; obtain ⟨-, hc1, hf1⟩ := own_box (Below.refl _ w1) (size_of_box gp1) gp1; have Gs1 := Lib.hid gs1; clear gs1)
      | (go_at_call 91; refine (HN.out _).mono ?_; rintro e w2 ⟨rfl, hb2⟩; have hq2 := hb1.trans (hb2.mono hb1.size); have hz2 := hb2.size; have hy2 := hq2.size; obtain ⟨gx2, hc2, hf2⟩ := own_box hb2 (size_of_box Gs1.out) Gs1.out; have hlt2 := size_of_box gx2; have hc20 := hc2 0))
    go_ret
    exact ⟨rfl, hq2.alloc hy2 _⟩
  · have hr0 : chkP p = 0 := by rw [hr]; simp [hs]
    have hmn : ¬ 1000000 < min sm 1000001 := by omega
    rw [hr0]
    generalize min sm 1000001 = mn at *
    clear hr hr0 hsum
    go_enter Tryz.func57, Tryz.ntmps57
    go_wp2_with (first
      | (go_at_call 86; refine HA3.out.mono ?_; rintro e w1 ⟨rfl, hb1, hz1, gp1, gs1⟩; obtain ⟨-, hc1, hf1⟩ := own_box (Below.refl _ w1) (size_of_box gp1) gp1; have Gs1 := Lib.hid gs1; clear gs1)
      | (go_at_call 91; refine (HN.out _).mono ?_; rintro e w2 ⟨rfl, hb2⟩; have hq2 := hb1.trans (hb2.mono hb1.size); have hz2 := hb2.size; have hy2 := hq2.size; obtain ⟨gx2, hc2, hf2⟩ := own_box hb2 (size_of_box Gs1.out) Gs1.out; have hlt2 := size_of_box gx2; have hc20 := hc2 0))
    go_ret
    exact ⟨rfl, hq2.alloc hy2 _⟩
end Go.Proofs.YtogngcbflhdadaaGreat

/- The contract of profile.put. -/
namespace Go.Proofs.YtogngcbflhdadaaGreat
open Go Go.RowKit Go.Shelf

theorem PutFrame.trans {g base : Nat} {a b c : World} (h : PutFrame g base a b) (k : PutFrame g base b c) : PutFrame g base a c :=
  ⟨k.1.trans h.1, k.2.1.trans h.2.1, k.2.2.1.trans h.2.2.1, Nat.le_trans h.2.2.2.1 k.2.2.2.1, fun b h1 h2 => (k.2.2.2.2 b h1 h2).trans (h.2.2.2.2 b h1 h2)⟩
end Go.Proofs.YtogngcbflhdadaaGreat

/- The contracts of profile.put and profile.Add. -/
namespace Go.Proofs.YtogngcbflhdadaaGreat
open Go Go.RowKit Go.Shelf

/-- What Add, Take and Sum give. -/
def ProfGives (S : Nat → Prop) (I : Int) (V : Prof) (w : World) (e : Ending) (w' : World) : Prop := ∃ v, e = .returned (.tuple #[v, .int .i64 I]) ∧ VProf (fun b => S b ∨ w.heap.size ≤ b) w' v V ∧ Below w.heap.size w w'
theorem ProfGives.none {S : Nat → Prop} {I : Int} {w w' : World} (hb : Below w.heap.size w w') : ProfGives S I noP w (.returned (.tuple #[.agg #[.int .i64 0, .int .u8 0, .slice none 0 0], .int .i64 I])) w' :=
  ⟨_, rfl, ⟨Option.none, 0, rfl, by show (0 : Int) ≤ 0; omega, by show (0 : Int) ≤ 255; omega, RSl.nil⟩, hb⟩
theorem row_le {rows : List Row} (h : Asc rows) : ∀ r ∈ rows, r.many ≤ sumR rows := by
  induction rows with
  | nil => intro r hr; cases hr
  | cons a rs ih =>
    intro r hr
    have h1 := h.1
    have h2 := sumR_nonneg h.2.2
    simp only [sumR, List.map_cons, List.sum_cons] at *
    rcases List.mem_cons.1 hr with rfl | hr
    · omega
    · have := ih h.2.2 r hr; omega
theorem Valid.many {p : Prof} (h : Valid p) : ∀ r ∈ p.rows, 0 < r.many ∧ r.many ≤ 1000000 := fun r hr => ⟨h.asc.many r hr, Int.le_trans (row_le h.asc r hr) h.sum⟩
/-- The region of a profile's rows in a call that has boxes up to e: what was there, and what is made behind. -/
def TT (S : Nat → Prop) (e : Nat) : Nat → Prop := fun b => S b ∨ e ≤ b
theorem OwnT.rslT {T : Nat → Prop} {base : Nat} {w : World} {v : Value} {rows : List Row} (h : OwnT T base w v rows) (hl : rows.length ≤ 140737488355328) (U : Nat → Prop) (h1 : ∀ b, T b → U b) (h2 : ∀ b, base ≤ b → U b) : RRows U w v rows :=
  RSl.mono (fun _ _ _ hd => dRow.mono (fun b hb => h1 b hb.1) hd) (fun b hb => h2 b hb) (Own.rsl h hl)
/-- A world in which the profile's box holds rows of the call's own. -/
structure Held (S : Nat → Prop) (s e : Nat) (c k : Int) (rows : List Row) (a : Option Addr) (n cap : Nat) (w W : World) : Prop where
  box : W.heap[s]? = some (.cells #[.int .i64 c, .int .u8 k, .slice a n cap] 24 (0, 0))
  own : OwnT (TT S e) e W (.slice a n cap) rows
  below : Below s w W
  size : e ≤ W.heap.size
theorem Held.n {S : Nat → Prop} {s e : Nat} {c k : Int} {rows : List Row} {a : Option Addr} {n cap : Nat} {w W : World} (h : Held S s e c k rows a n cap w W) : n = rows.length := by
  obtain ⟨_, _, e⟩ := h.own.shape; simp at e; exact e.2.1
/-- Behind the store of the result. -/
theorem Held.end {S : Nat → Prop} {s e : Nat} {c k : Int} {rows : List Row} {a : Option Addr} {n cap : Nat} {w W W5 : World} (h : Held S s e c k rows a n cap w W) (hs : s = w.heap.size) (hS : ∀ b, S b → b < s) (hk : 0 ≤ k ∧ k ≤ 255) (hl : rows.length ≤ 1000) (hb : Below W.heap.size W W5) (j : Nat) (hj : s < j ∧ j < e) (x y z : Value) :
    VProf (fun b => S b ∨ w.heap.size ≤ b) (((W5.setCell ⟨j, 0, none⟩ x).setCell ⟨j, 1, none⟩ y).setCell ⟨j, 2, none⟩ z) (.agg #[.int .i64 c, .int .u8 k, .slice a n cap]) ⟨c, k, rows⟩ ∧ Below w.heap.size w (((W5.setCell ⟨j, 0, none⟩ x).setCell ⟨j, 1, none⟩ y).setCell ⟨j, 2, none⟩ z) := by
  have hn := h.n
  subst hn
  have hT : ¬ TT S e j := fun h => by
    rcases h with h | h
    · have := hS _ h; omega
    · omega
  have ho := h.own.below hb
  have hne : some j ≠ (Value.slice a rows.length cap).ownBlock := fun e => by have := (Own.lt ho j e.symm).1; omega
  have hz := h.size
  refine ⟨⟨a, cap, rfl, hk.1, hk.2, (((ho.setCell hT hne 0 x).setCell hT hne 1 y).setCell hT hne 2 z).rslT (by omega) _ (fun b hb => by rcases hb with hb | hb; exact .inl hb; exact .inr (by omega)) (fun b hb => .inr (by omega))⟩, ?_⟩
  subst hs
  exact (((h.below.trans (hb.mono h.below.size)).setCell (p := ⟨j, 0, none⟩) (by simp; omega) _).setCell (p := ⟨j, 1, none⟩) (by simp; omega) _).setCell (p := ⟨j, 2, none⟩) (by simp; omega) _
end Go.Proofs.YtogngcbflhdadaaGreat

/- The contracts of profile.both and profile.Sum on profiles that have a sum; of profile.count and Many on valid profiles. -/
namespace Go.Proofs.YtogngcbflhdadaaGreat
open Go Go.RowKit Go.Shelf

theorem sumR_takeL : ∀ {b : List Row}, (∀ r ∈ b, 0 < r.many) → ∀ k, sumR (b.take k) ≤ sumR b
  | [], _, k => by simp
  | r :: b, h, 0 => by
    have h1 := sumR_takeL (fun s hs => h s (List.mem_cons_of_mem _ hs)) (b := b) 0
    have := h r (List.mem_cons_self ..)
    simp only [List.take_zero, sumR, List.map_nil, List.sum_nil, List.map_cons, List.sum_cons] at *
    omega
  | r :: b, h, k + 1 => by
    have h1 := sumR_takeL (fun s hs => h s (List.mem_cons_of_mem _ hs)) (b := b) k
    simp only [List.take_succ_cons, sumR, List.map_cons, List.sum_cons] at *
    omega
theorem Held.step {S : Nat → Prop} {s e : Nat} {c k : Int} {rows : List Row} {a : Option Addr} {n cap : Nat} {w W W' : World} (h : Held S s e c k rows a n cap w W) (hb : Below W.heap.size W W') (hs : s ≤ W.heap.size) : Held S s e c k rows a n cap w W' :=
  ⟨(hb.block _ (size_of_box h.box)).trans h.box, h.own.below hb, h.below.trans (hb.mono hs), Nat.le_trans h.size hb.size⟩
end Go.Proofs.YtogngcbflhdadaaGreat
