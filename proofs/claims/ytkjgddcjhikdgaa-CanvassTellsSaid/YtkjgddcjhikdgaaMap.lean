/- Maps of the call's own, by what they hold at each key; over any program. -/
import Derived.Test.YtkjgddcjhikdgaaOwnX
import Derived.Maps.OwnOps
import Derived.Maps.OwnSet
import Derived.Maps.Views
namespace Go.Proofs.Ytkjgddcjhikdgaa
open Go Go.RowKit Go.Maps

/-- The function, turned at one key. -/
noncomputable def upd (f : Lit → Option Lit) (k d : Lit) : Lit → Option Lit := fun l => @ite _ (l = k) (Classical.propDecidable _) (some d) (f l)
theorem upd_same (f : Lit → Option Lit) (k d : Lit) : upd f k d k = some d := by unfold upd; exact if_pos rfl
theorem upd_other (f : Lit → Option Lit) {k d l : Lit} (h : l ≠ k) : upd f k d l = f l := by unfold upd; exact if_neg h
/-- Block b is a map of at most n entries that holds f. -/
def MapF (w : World) (P : Program) (k e : TypeId) (b n : Nat) (f : Lit → Option Lit) : Prop :=
  ∃ D : DataW Unit, w.ownsMap P k (plainElem P e) b n D ∧ ∀ kl, (∀ z, D.atKey kl z = match f kl with | some d => .lit d | none => z) ∧ Maps.has D kl = (f kl).isSome
section
variable {P : Program} {w : World} {k e : TypeId} {b n : Nat} {f : Lit → Option Lit}
theorem MapF.made (w : World) (P : Program) (k e : TypeId) : MapF (w.alloc (.map #[] 0)) P k e w.heap.size 0 (fun _ => none) :=
  ⟨_, World.ownsMap_made w P k _, fun kl => ⟨fun z => rfl, rfl⟩⟩
theorem MapF.kept {w' : World} {row : Option Nat} (h : MapF w P k e b n f) (hg : w.grownBy w' row) (hne : some b ≠ row) : MapF w' P k e b n f := let ⟨D, h1, h2⟩ := h; ⟨D, h1.kept hg hne, h2⟩
theorem MapF.lt (h : MapF w P k e b n f) : b < w.heap.size := let ⟨_, h1, _⟩ := h; h1.lt
theorem MapF.below {w' : World} (h : MapF w P k e b n f) (hb : Below w.heap.size w w') : MapF w' P k e b n f := h.kept (grownBy_of_below hb) (by simp)
theorem MapF.setCell (h : MapF w P k e b n f) {a : Addr} (ha : b ≠ a.block) (u : Value) : MapF (w.setCell a u) P k e b n f := let ⟨D, h1, h2⟩ := h; ⟨D, h1.setCell ha u, h2⟩
theorem plainElem_bool_inv (he : P.underlying e = some .bool) {v : Value} {z : DataW Unit × List MemPlace} (h : plainElem P e v = some z) : ∃ x, v = .bool x ∧ z = (.lit (.bool x), []) := by
  unfold plainElem at h
  rw [he] at h
  cases v <;> simp at h
  obtain rfl := h
  exact ⟨_, rfl, rfl⟩
def isTrue : Option Lit → Bool
  | some (.bool true) => true
  | _ => false
theorem MapF.look_bool {t : TypeId} (h : MapF w P k e b n f) (K : Keyed P k) (ht : P.underlying t = some (.map k e)) (he : P.underlying e = some .bool) (hz : (zeroValue e).run P w = .ok (.bool false) w) {key : Value} {kl : Lit} (hkey : keyOf P k key = some kl) :
    (Instr.lookup t (.map (some b)) key false).run P w = .ok (.bool (isTrue (f kl))) w := by
  obtain ⟨D, h1, h2⟩ := h
  obtain ⟨v, ps, hrun, hv⟩ := h1.lookup K ht hz (plainElem_bool he false) hkey
  obtain ⟨x, rfl, hx⟩ := plainElem_bool_inv he hv
  rw [(h2 kl).1] at hx
  rw [hrun]
  cases hf : f kl with
  | none => rw [hf] at hx; simp at hx; obtain ⟨rfl, -⟩ := hx; rfl
  | some d => rw [hf] at hx; simp at hx; obtain ⟨rfl, -⟩ := hx; cases x <;> rfl
theorem MapF.look_ok {t : TypeId} {q : IntKind} (h : MapF w P k e b n f) (K : Keyed P k) (ht : P.underlying t = some (.map k e)) (he : P.underlying e = some (.int q)) (hz : (zeroValue e).run P w = .ok (.int q 0) w) {key : Value} {kl : Lit} (hkey : keyOf P k key = some kl) :
    (f kl = none → (Instr.lookup t (.map (some b)) key true).run P w = .ok (.tuple #[.int q 0, .bool false]) w) ∧
      ∀ c, f kl = some (.int q c) → (Instr.lookup t (.map (some b)) key true).run P w = .ok (.tuple #[.int q c, .bool true]) w := by
  obtain ⟨D, h1, h2⟩ := h
  obtain ⟨v, ps, hrun, hv⟩ := h1.look_ok K ht hz (plainElem_int he (by cases q <;> decide)) hkey
  obtain ⟨x, rfl, hx, -⟩ := plainElem_int_inv he hv
  rw [(h2 kl).1] at hx
  rw [(h2 kl).2] at hrun
  refine ⟨fun hf => ?_, fun c hf => ?_⟩
  · rw [hrun]
    rw [hf] at hx ⊢
    simp at hx
    obtain ⟨rfl, -⟩ := hx
    rfl
  · rw [hrun]
    rw [hf] at hx ⊢
    simp at hx
    obtain ⟨rfl, -⟩ := hx
    rfl
theorem MapF.put {D : DataW Unit} (hD : IsMap D) {kl : Lit} (hk : WideAt.IsKeyLit kl) {d : Lit} (h2 : ∀ kl, (∀ z, D.atKey kl z = match f kl with | some d => .lit d | none => z) ∧ Maps.has D kl = (f kl).isSome) :
    ∀ l, (∀ z, (D.put kl (.lit d)).atKey l z = match upd f kl d l with | some d => .lit d | none => z) ∧ Maps.has (D.put kl (.lit d)) l = (upd f kl d l).isSome := by
  intro l
  by_cases h : l = kl
  · subst h
    rw [upd_same]
    exact ⟨fun z => atKey_put_same hD hk _ z, has_put_same hD hk _⟩
  · rw [upd_other f h]
    exact ⟨fun z => (atKey_put_other h _ z).trans ((h2 l).1 z), (has_put_other h _).trans (h2 l).2⟩
end
/-- 'm[k] = v' at the operation. -/
theorem wpList_mapF {P : Program} (w : World) {ops : Array Oper} {rest : List Oper} {o : Oper} {a : Act} {Q : Exit → Act → World → Prop}
    (hg : o.guard = none) (m x v : Operand) (t : TypeId) (hop : o.op = Op.mapUpdate t m x v)
    (k e : TypeId) (K : Keyed P k) (ht : P.underlying t = some (.map k e)) (b n : Nat) (f : Lit → Option Lit)
    (hm : a.eval m = .map (some b)) (hown : MapF w P k e b n f) (hn : n < maxLen) (key val : Value) (kl : Lit) (hx : a.eval x = key) (hv : a.eval v = val) (hkey : keyOf P k key = some kl) (hk : WideAt.IsKeyLit kl)
    (d : Lit) (hval : plainElem (H := Unit) P e val = some (.lit d, []))
    (hK : ∀ w', MapF w' P k e b (n + 1) (upd f kl d) → w.grownBy w' (some b) → wpList P ops Q rest (a.put o.dst undef) w') :
    wpList P ops Q (o :: rest) a w := by
  obtain ⟨D, h1, h2⟩ := hown
  exact wpList_mapUpdate_own w hg m x v t hop k e K ht _ b n D hm h1 hn key val kl hx hv hkey (.lit d) [] hval fun w' h3 h4 => hK w' ⟨_, h3, MapF.put h1.isMap hk h2⟩ h4
end Go.Proofs.Ytkjgddcjhikdgaa
