/- The law on append to a row of the call's own whose elements have memory of their own, inside a fence. -/
import Derived.Test.YtkjgddcjhikdgaaOwnX
import Derived.OwnWalkIn
namespace Go.Proofs.Ytkjgddcjhikdgaa
open Go Go.RowKit

variable {P : Program} (w : World)
theorem wpListIn_appX {G : Fence} {m : Nat} {α : Type} {z : Value} {size bytes : Nat} {ops : Array Oper} {rest : List Oper} {o : Oper} {a : Act} {Q : Exit → Act → World → Prop} {e t : TypeId} (hinfo : (P.info? e).map (fun i => (i.zero, i.size, i.bytes)) = some (some z, size, bytes))
    (hgd : o.guard = none) {s x : Operand} (ho : o.op = .call { callee := .builtin .append, args := #[s, x], argTypes := #[t, t] }) (ht : P.underlying t = some (.slice e))
    (hzs : z.cells.size = size ∧ 0 < size ∧ 0 < bytes) {dec : (Nat → Prop) → World → List Value → α → Prop} (F : Fam dec) (base : Nat)
    {v : Value} {xs : List α} (hown : OwnX base e size dec w v xs) (hs : a.eval s = v) {g : Nat} {cs : List Value} {y : α} (hg : w.heap[g]? = some (.cells cs.toArray e (0, 0))) (hl : cs.length = size) (hy : dec (Rg base w v) w cs y)
    (hx : a.eval x = .slice (some ⟨g, 0, none⟩) 1 1)
    (h63 : (xs.length + 1) * bytes ≤ 140737488355328) (hbase : base ≤ w.heap.size)
    (h : ∀ a' n' c' w', w.grownBy w' v.ownBlock → OwnX base e size dec w' (.slice a' n' c') (xs ++ [y]) →
      wpListIn G m P ops Q rest (a.put o.dst (.slice a' n' c')) w') : wpListIn G m P ops Q (o :: rest) a w := by
  refine wpListIn_plain hgd fun K hK' => ?_
  obtain ⟨i, hi, hz, hsize, hby⟩ := info_parts hinfo
  obtain ⟨cells, hown, hd⟩ := hown
  obtain ⟨v', w', news, hrun, h2, h3, h4, h5⟩ := run_append_rsl (P := P) w base t o.type e i z size bytes ht hi hz hsize hby hzs.1 hzs.2.1 (From 0) (dec (Rg base w v)) (F.one _) v xs.length cells hown (.slice (some ⟨g, 0, none⟩) 1 1) [y] (RSl.built (lo := 0) (Nat.zero_le _) hg hl hy) (by simpa using h63) hzs.2.2 hbase
  have hsh : ∃ a' c', v' = .slice a' (xs ++ [y]).length c' := by
    rw [List.length_append]
    rcases h3.2 with ⟨rfl, h0⟩ | ⟨g, cap, cur, rfl, _⟩
    · exact ⟨none, 0, by rw [h0]⟩
    · exact ⟨_, cap, rfl⟩
  obtain ⟨a', c', rfl⟩ := hsh
  have hsame : Same (Rg base w v) w w' := .of_grown h4 (fun b hb => hb.2.2)
  have hO : Own base e size (dec (Rg base w v)) w' (.slice a' (xs ++ [y]).length c') (xs ++ [y]) := ⟨cells ++ news, by rw [List.length_append] at h3 ⊢; exact h3, (hd.append h2).same (F.stable _) hsame⟩
  have hO' : OwnX base e size dec w' (.slice a' (xs ++ [y]).length c') (xs ++ [y]) := by
    refine Own.dmono (fun cs x hd => F.mono (fun b hb => ⟨hb.1, Nat.lt_of_lt_of_le hb.2.1 h4.size, ?_⟩) hd) hO
    rcases h5 with e | e
    · rw [e]; exact hb.2.2
    · rw [e]; have := hb.2.1; intro h; injection h with h; omega
  unfold Oper.wpIn
  refine ⟨?_, ?_⟩
  · simp [Oper.about, ho, resolve, Target.leads, Sem.run_pure]
  · rw [Oper.semAt_plain G _ _ (by rw [ho]; intro c hc'; cases hc')]
    simp only [execOp, ho, resolve, invoke, builtin, Sem.run_bind, Sem.run_pure, Result.andThen_ok, List.map_toArray, List.map_cons, List.map_nil, hs, hx, hrun]
    exact hK' _ _ (h a' _ c' w' h4 hO')
end Go.Proofs.Ytkjgddcjhikdgaa
