/- Laws on append and on rows of the call's own, over the reading predicates; over any program. -/
import Derived.Test.YtkjgddcjhikdgaaBase
import Derived.Maps.AppendAt
import Derived.WalkKit
import Derived.Lib.Hide
namespace Go.Proofs.Ytkjgddcjhikdgaa
open Go Go.RowKit

def OneC {α : Type} (dec : World → List Value → α → Prop) : Prop := ∀ w cs x, dec w cs x → ∀ u ∈ cs, u.oneCell' = true
theorem dInt.one (k : IntKind) : OneC (dInt k) := by
  intro w cs x h u hu; obtain ⟨rfl, _⟩ := h; simp at hu; subst hu; rfl
theorem slice_one {α : Type} {S : Nat → Prop} {n : Nat} {dec : World → List Value → α → Prop} {w : World} {v : Value} {xs : List α} (h : RSl S n dec w v xs) : v.oneCell' = true := by
  obtain ⟨a, cap, rfl, _⟩ := RSl.shape h; rfl
theorem dBlt.one (S : Nat → Prop) : OneC (dBlt S) := by
  intro w cs x h u hu; obtain ⟨v, rfl, _, _, hv⟩ := h; simp at hu; rcases hu with rfl | rfl
  · rfl
  · exact slice_one hv
theorem dBtc.one (S : Nat → Prop) : OneC (dBtc S) := by
  intro w cs x h u hu; obtain ⟨v, rfl, _, hv⟩ := h; simp at hu; rcases hu with rfl | rfl
  · rfl
  · exact slice_one hv

/-- Every value of a decoded row is of one cell. -/
theorem Dec.one {α : Type} {n : Nat} {dec : World → List Value → α → Prop} (h1 : OneC dec) (hn : 0 < n) {w : World} {cells : List Value} {xs : List α} (h : Dec n dec w cells xs) :
    ∀ u ∈ cells, u.oneCell' = true := by
  intro u hu
  obtain ⟨j, hj, rfl⟩ := List.getElem_of_mem hu
  have hlen := h.1
  have hi : j / n < xs.length := by rw [Nat.div_lt_iff_lt_mul hn]; omega
  refine h1 _ _ _ (h.2 (j / n) hi) _ ?_
  have hm : j % n < n := Nat.mod_lt _ hn
  have hd : j / n * n + j % n = j := by rw [Nat.mul_comm]; exact Nat.div_add_mod j n
  have : ((cells.drop (j / n * n)).take n)[j % n]? = some cells[j] := by
    rw [List.getElem?_take_of_lt hm, List.getElem?_drop, hd]; simp [hj]
  exact List.mem_of_getElem? this

theorem Dec.append {α : Type} {n : Nat} {dec : World → List Value → α → Prop} {w : World} {cs ds : List Value} {xs ys : List α} (h : Dec n dec w cs xs) (k : Dec n dec w ds ys) :
    Dec n dec w (cs ++ ds) (xs ++ ys) := by
  have hl := h.1
  have hk := k.1
  refine ⟨by rw [List.length_append, List.length_append, hl, hk, Nat.add_mul], fun i hi => ?_⟩
  by_cases hx : i < xs.length
  · rw [List.getElem_append_left hx, List.drop_append_of_le_length (by rw [hl]; exact Nat.mul_le_mul_right _ (Nat.le_of_lt hx)), List.take_append_of_le_length]
    · exact h.2 i hx
    · rw [List.length_drop, hl, ← Nat.sub_mul]
      exact Nat.le_mul_of_pos_left _ (by omega)
  · rw [List.getElem_append_right (by omega)]
    have : (cs ++ ds).drop (i * n) = ds.drop ((i - xs.length) * n) := by
      rw [List.drop_append]
      have h1 : cs.drop (i * n) = [] := List.drop_eq_nil_of_le (by rw [hl]; exact Nat.mul_le_mul_right _ (by omega))
      rw [h1, List.nil_append, hl, ← Nat.sub_mul]
    rw [this]
    exact k.2 _ _

theorem Dec.nil {α : Type} (n : Nat) (dec : World → List Value → α → Prop) (w : World) : Dec n dec w [] ([] : List α) := ⟨by simp, fun i hi => by simp at hi⟩
theorem Dec.single {α : Type} {n : Nat} {dec : World → List Value → α → Prop} {w : World} {cs : List Value} {x : α} (hl : cs.length = n) (h : dec w cs x) : Dec n dec w cs [x] := by
  refine ⟨by simp [hl], fun i hi => ?_⟩
  obtain rfl : i = 0 := by simpa using hi
  simp only [Nat.zero_mul, List.drop_zero, ← hl, List.take_length, List.getElem_cons_zero]
  exact h

/-- v is a row of the call's own, from block base on, that decodes as xs. -/
def Own {α : Type} (base : Nat) (e : TypeId) (n : Nat) (dec : World → List Value → α → Prop) (w : World) (v : Value) (xs : List α) : Prop :=
  ∃ cells, w.ownsRow base e n v xs.length cells ∧ Dec n dec w cells xs

theorem Own.nil {α : Type} (base : Nat) (e : TypeId) (n : Nat) (dec : World → List Value → α → Prop) (w : World) : Own base e n dec w (.slice none 0 0) ([] : List α) :=
  ⟨[], World.ownsRow_nil w base e n, Dec.nil n dec w⟩
/-- An empty slice over a new block of cap elements. -/
theorem Own.made {α : Type} (base : Nat) (e : TypeId) (n : Nat) (dec : World → List Value → α → Prop) (w : World) (cur : Array Value) (cap : Nat) (hb : base ≤ w.heap.size) (hm : cap ≤ maxLen) (hs : cur.size = cap * n) :
    Own base e n dec (w.alloc (.cells cur e)) (.slice (some ⟨w.heap.size, 0, none⟩) 0 cap) ([] : List α) :=
  ⟨[], World.ownsRow_made w cur cap hb hm hs, Dec.nil n dec _⟩
theorem Own.fresh {α : Type} (base : Nat) (e : TypeId) (n : Nat) (dec : World → List Value → α → Prop) {w : World} {g : Nat} {cur : Array Value} (cap : Nat) (h : w.heap[g]? = some (.cells cur e (0, 0))) (hb : base ≤ g) (hm : cap ≤ maxLen) (hs : cur.size = cap * n) :
    Own base e n dec w (.slice (some ⟨g, 0, none⟩) 0 cap) ([] : List α) :=
  ⟨[], ⟨by simp, .inr ⟨g, cap, cur, rfl, hb, h, Nat.zero_le _, hm, hs, by simp⟩⟩, Dec.nil n dec _⟩
theorem Own.shape {α : Type} {base : Nat} {e : TypeId} {n : Nat} {dec : World → List Value → α → Prop} {w : World} {v : Value} {xs : List α} (h : Own base e n dec w v xs) :
    ∃ a cap, v = .slice a xs.length cap := by
  obtain ⟨cells, h, _⟩ := h
  rcases h.2 with ⟨rfl, h0⟩ | ⟨g, cap, cur, rfl, _⟩
  · exact ⟨none, 0, by rw [h0]⟩
  · exact ⟨_, cap, rfl⟩
theorem Own.rsl {α : Type} {base : Nat} {e : TypeId} {n : Nat} {dec : World → List Value → α → Prop} {w : World} {v : Value} {xs : List α} (h : Own base e n dec w v xs) (hl : xs.length ≤ 140737488355328) :
    RSl (From base) n dec w v xs := by
  obtain ⟨cells, ho, hd⟩ := h
  have hc := @World.ownsRow.cells _ _ _ _ _ _ _ ho
  rcases ho.2 with ⟨rfl, h0⟩ | ⟨g, cap, cur, rfl, hb, hg, hn, _⟩
  · exact ⟨none, 0, cells, by rw [h0], by omega, hl, hd, .inl (List.eq_nil_of_length_eq_zero h0)⟩
  · refine ⟨_, cap, cells, rfl, hn, hl, hd, .inr ⟨g, 0, rfl, hb, fun j u hu => ?_⟩⟩
    have := hc (g := g) rfl j u hu
    have hadd : (⟨g, 0, none⟩ : Addr).add j = ⟨g, 0 + j, none⟩ := by unfold Addr.add; split <;> simp_all
    rwa [hadd] at this
theorem Own.kept {α : Type} {base : Nat} {e : TypeId} {n : Nat} {dec : World → List Value → α → Prop} {S : Nat → Prop} (hst : Stable S dec) {w w' : World} {v : Value} {xs : List α} {row : Option Nat}
    (h : Own base e n dec w v xs) (hg : w.grownBy w' row) (hne : v.ownBlock = none ∨ v.ownBlock ≠ row) (hS : Same S w w') : Own base e n dec w' v xs := by
  obtain ⟨cells, ho, hd⟩ := h
  exact ⟨cells, ho.kept hg hne, hd.same hst hS⟩
theorem grownBy_of_below {w w' : World} (h : Below w.heap.size w w') : w.grownBy w' none := ⟨h.os, h.tape, h.output, h.size, fun k hk _ => h.block k hk⟩
theorem Own.below {α : Type} {base : Nat} {e : TypeId} {n : Nat} {dec : World → List Value → α → Prop} {S : Nat → Prop} (hst : Stable S dec) {w w' : World} {v : Value} {xs : List α}
    (h : Own base e n dec w v xs) (hb : Below w.heap.size w w') : Own base e n dec w' v xs :=
  h.kept hst (grownBy_of_below hb) (by cases v.ownBlock <;> simp) (.of_below hb)
theorem Own.lt {α : Type} {base : Nat} {e : TypeId} {n : Nat} {dec : World → List Value → α → Prop} {w : World} {v : Value} {xs : List α} (h : Own base e n dec w v xs) :
    ∀ k, v.ownBlock = some k → base ≤ k ∧ k < w.heap.size := by obtain ⟨_, ho, _⟩ := h; exact ho.lt

/-- A slice of one element over a block just made. -/
theorem RSl.built {α : Type} {n : Nat} {dec : World → List Value → α → Prop} {w' : World} {g : Nat} {cs : List Value} {e : TypeId} {x : α} {lo : Nat} (hlo : lo ≤ g) (hg : w'.heap[g]? = some (.cells cs.toArray e (0, 0))) (hl : cs.length = n) (h : dec w' cs x) :
    RSl (From lo) n dec w' (.slice (some ⟨g, 0, none⟩) 1 1) [x] := by
  refine ⟨_, 1, cs, rfl, by simp, by simp, Dec.single hl h, .inr ⟨g, 0, rfl, hlo, fun j u hu => ?_⟩⟩
  rw [Nat.zero_add]
  have := cell_of_row w' g j cs.toArray e (0, 0) hg
  rw [this]
  simpa using hu

section
variable {P : Program} (w : World)
theorem append_of_nil (base : Nat) (t ty e : TypeId) (i : TypeInfo) (size : Nat) (ht : P.underlying t = some (.slice e)) (hi : P.info? e = some i)
    (v : Value) (n : Nat) (xs : List Value) (hown : w.ownsRow base e size v n xs) (c : Nat) : (Builtin.append_ #[t, t] ty #[v, .slice none 0 c]).run P w = .ok v w := by
  rcases hown.2 with ⟨rfl, rfl⟩ | ⟨g, cap, cur, rfl, _, _, hnc, _⟩
  · simp [Builtin.append_, run_underlying ht, sizeOf, typeInfo, hi, Builtin.lenOf, Builtin.firstCells]
  · simp [Builtin.append_, run_underlying ht, sizeOf, typeInfo, hi, Builtin.lenOf, Builtin.firstCells, hnc, storeCells]

/-- append(own row, a slice that reads as ys ...). -/
theorem run_append_rsl {α : Type} (base : Nat) (t ty e : TypeId) (i : TypeInfo) (z : Value) (size bytes : Nat) (ht : P.underlying t = some (.slice e)) (hi : P.info? e = some i) (hz : i.zero = some z)
    (hsize : i.size = size) (hby : i.bytes = bytes) (hzs : z.cells.size = size) (hsz : 0 < size)
    (S : Nat → Prop) (dec : World → List Value → α → Prop) (h1 : OneC dec)
    (v : Value) (n : Nat) (xs : List Value) (hown : w.ownsRow base e size v n xs) (u : Value) (ys : List α) (hu : RSl S size dec w u ys)
    (h63 : (n + ys.length) * bytes ≤ 140737488355328) (hby0 : 0 < bytes) (hbase : base ≤ w.heap.size) :
    ∃ v' w' news, (Builtin.append_ #[t, t] ty #[v, u]).run P w = .ok v' w' ∧ Dec size dec w news ys ∧ w'.ownsRow base e size v' (n + ys.length) (xs ++ news) ∧ w.grownBy w' v.ownBlock ∧
      (v'.ownBlock = v.ownBlock ∨ v'.ownBlock = some w.heap.size) := by
  obtain ⟨a, cap, cells, rfl, _, _, hd, hc⟩ := hu
  have hm : n + ys.length ≤ maxLen := by
    have := Nat.le_mul_of_pos_right (n + ys.length) hby0
    simp only [maxLen]; omega
  rcases a with _ | ad
  · have h0 : ys = [] := by
      rcases hc with hc | ⟨b, off, h, _⟩
      · exact hc
      · cases h
    subst h0
    have hn : cells = [] := List.eq_nil_of_length_eq_zero (by simpa using hd.1)
    subst hn
    exact ⟨v, w, [], append_of_nil w base t ty e i size ht hi v n xs hown cap, hd, by simpa using hown, ⟨rfl, rfl, rfl, Nat.le_refl _, fun _ _ _ => rfl⟩, .inl rfl⟩
  · have hcells : ∀ j u, cells[j]? = some u → w.cell? (ad.add j) = some u := by
      intro j u hu
      rcases hc with hc | ⟨b, off, h, _, hc⟩
      · subst hc
        have hn : cells = [] := List.eq_nil_of_length_eq_zero (by simpa using hd.1)
        subst hn
        simp at hu
      · injection h with h
        subst h
        have hadd : (⟨b, off, none⟩ : Addr).add j = ⟨b, off + j, none⟩ := by unfold Addr.add; split <;> simp_all
        rw [hadd]
        exact hc j u hu
    obtain ⟨v', w', hrun, h2, h3, _, h5⟩ := run_append_own_at (P := P) w base t ty e i z size bytes ht hi hz hsize hby hzs hsz v n xs hown ad ys.length cap cells hd.1 hcells (hd.one h1 hsz) hm h63 hbase
    exact ⟨v', w', cells, hrun, hd, h2, h3, h5⟩

theorem wp_app {α : Type} {z : Value} {size bytes : Nat} {o : Oper} {a : Act} {K : Act → World → Prop} {Q : Exit → Act → World → Prop} {e t : TypeId} (hinfo : (P.info? e).map (fun i => (i.zero, i.size, i.bytes)) = some (some z, size, bytes))
    {s x : Operand} (ho : o.op = .call { callee := .builtin .append, args := #[s, x], argTypes := #[t, t] }) (ht : P.underlying t = some (.slice e))
    (hzs : z.cells.size = size ∧ 0 < size ∧ 0 < bytes) {S T : Nat → Prop} {dec : World → List Value → α → Prop} (h1 : OneC dec) (hst : Stable T dec) (base : Nat)
    {v : Value} {xs : List α} (hown : Own base e size dec w v xs) (hs : a.eval s = v) {u : Value} {ys : List α} (hu : RSl S size dec w u ys) (hx : a.eval x = u)
    (h63 : (xs.length + ys.length) * bytes ≤ 140737488355328) (hbase : base ≤ w.heap.size)
    (h : ∀ a' c' w', w.grownBy w' v.ownBlock → ((Value.slice a' (xs ++ ys).length c').ownBlock = v.ownBlock ∨ (Value.slice a' (xs ++ ys).length c').ownBlock = some w.heap.size) → (Same T w w' → Own base e size dec w' (.slice a' (xs ++ ys).length c') (xs ++ ys)) →
      K (a.put o.dst (.slice a' (xs ++ ys).length c')) w') : o.wp P a w K Q := by
  obtain ⟨i, hi, hz, hsize, hby⟩ := info_parts hinfo
  obtain ⟨cells, hown, hd⟩ := hown
  obtain ⟨v', w', news, hrun, h2, h3, h4, h5⟩ := run_append_rsl (P := P) w base t o.type e i z size bytes ht hi hz hsize hby hzs.1 hzs.2.1 S dec h1 v xs.length cells hown u ys hu h63 hzs.2.2 hbase
  have hsh : ∃ a' c', v' = .slice a' (xs ++ ys).length c' := by
    rw [List.length_append]
    rcases h3.2 with ⟨rfl, h0⟩ | ⟨g, cap, cur, rfl, _⟩
    · exact ⟨none, 0, by rw [h0]⟩
    · exact ⟨_, cap, rfl⟩
  obtain ⟨a', c', rfl⟩ := hsh
  unfold Oper.wp execOp
  simp only [ho, resolve, invoke, builtin, Sem.run_bind, Sem.run_pure, Result.andThen_ok, List.map_toArray, List.map_cons, List.map_nil, hs, hx, hrun]
  exact h a' c' w' h4 h5 fun hS => ⟨cells ++ news, by rw [List.length_append] at h3 ⊢; exact h3, (hd.append h2).same hst hS⟩

theorem wpList_app {α : Type} {z : Value} {size bytes : Nat} {ops : Array Oper} {rest : List Oper} {o : Oper} {a : Act} {Q : Exit → Act → World → Prop} {e t : TypeId} (hinfo : (P.info? e).map (fun i => (i.zero, i.size, i.bytes)) = some (some z, size, bytes))
    (hgd : o.guard = none) {s x : Operand} (ho : o.op = .call { callee := .builtin .append, args := #[s, x], argTypes := #[t, t] }) (ht : P.underlying t = some (.slice e))
    (hzs : z.cells.size = size ∧ 0 < size ∧ 0 < bytes) {S T : Nat → Prop} {dec : World → List Value → α → Prop} (h1 : OneC dec) (hst : Stable T dec) (base : Nat)
    {v : Value} {xs : List α} (hown : Own base e size dec w v xs) (hs : a.eval s = v) {u : Value} {ys : List α} (hu : RSl S size dec w u ys) (hx : a.eval x = u)
    (h63 : (xs.length + ys.length) * bytes ≤ 140737488355328) (hbase : base ≤ w.heap.size)
    (h : ∀ a' c' w', w.grownBy w' v.ownBlock → ((Value.slice a' (xs ++ ys).length c').ownBlock = v.ownBlock ∨ (Value.slice a' (xs ++ ys).length c').ownBlock = some w.heap.size) → (Same T w w' → Own base e size dec w' (.slice a' (xs ++ ys).length c') (xs ++ ys)) →
      wpList P ops Q rest (a.put o.dst (.slice a' (xs ++ ys).length c')) w') : wpList P ops Q (o :: rest) a w :=
  wpList_plain hgd fun _ hK => wp_app w hinfo ho ht hzs h1 hst base hown hs hu hx h63 hbase fun a' c' w' h2 h3 h4 => hK _ _ (h a' c' w' h2 h3 h4)

theorem step_app {α : Type} {z : Value} {size bytes : Nat} {ops : Array Oper} {o : Oper} {a : Act} {K : Act → World → Prop} {Q : Exit → Act → World → Prop} {E : Prop} {e t : TypeId} (hinfo : (P.info? e).map (fun i => (i.zero, i.size, i.bytes)) = some (some z, size, bytes))
    (hgd : o.guard = none) {s x : Operand} (ho : o.op = .call { callee := .builtin .append, args := #[s, x], argTypes := #[t, t] }) (ht : P.underlying t = some (.slice e))
    (hzs : z.cells.size = size ∧ 0 < size ∧ 0 < bytes) {S T : Nat → Prop} {dec : World → List Value → α → Prop} (h1 : OneC dec) (hst : Stable T dec) (base : Nat)
    {v : Value} {xs : List α} (hown : Own base e size dec w v xs) (hs : a.eval s = v) {u : Value} {ys : List α} (hu : RSl S size dec w u ys) (hx : a.eval x = u)
    (h63 : (xs.length + ys.length) * bytes ≤ 140737488355328) (hbase : base ≤ w.heap.size)
    (h : ∀ a' c' w', w.grownBy w' v.ownBlock → ((Value.slice a' (xs ++ ys).length c').ownBlock = v.ownBlock ∨ (Value.slice a' (xs ++ ys).length c').ownBlock = some w.heap.size) → (Same T w w' → Own base e size dec w' (.slice a' (xs ++ ys).length c') (xs ++ ys)) →
      K (a.put o.dst (.slice a' (xs ++ ys).length c')) w') :
    if Region.wanted o (yielded ops a.tmps) = true then Oper.wp P o a w K Q else E := by
  have hw : Region.wanted o (yielded ops a.tmps) = true := by simp [Region.wanted, hgd]
  rw [if_pos hw]
  exact wp_app w hinfo ho ht hzs h1 hst base hown hs hu hx h63 hbase h
end
end Go.Proofs.Ytkjgddcjhikdgaa
