/- What record.Read answers: plain definitions; the readings that its walks want. -/
import Derived.Test.YtkjgddcjhikdgaaSplO
import Derived.Laws.BytesArg
namespace Go.Proofs.Ytkjgddcjhikdgaa
open Go Go.RowKit Go.Shelf

theorem RBytes.str {S : Nat → Prop} {w : World} {v : Value} {xs : List Int} (h : RBytes S w v xs) : (convert 61 9 v).run Try.prog w = .ok (.string (strOfNums xs)) w := by
  obtain ⟨a, cap, rfl, h1, h2⟩ := RSl.shape h
  rcases Nat.eq_zero_or_pos xs.length with h0 | h0
  · have hx : xs = [] := List.eq_nil_of_length_eq_zero h0
    subst hx
    cases a with
    | none => exact run_convert_bytes_nil w _ _ Try.underlying61 Try.underlying5 _ _ _ Try.underlying9
    | some ad =>
      have hl := run_loadCells_list (P := Try.prog) w ad ([] : List Value) (fun j v hj => by simp at hj)
      rw [run_convert_bytes_string w _ _ _ (some ad) _ cap Try.underlying61 Try.underlying5 Try.underlying9]
      exact run_bytesToString w ad 0 cap [] hl
  · obtain ⟨b, off, rfl, -, -⟩ := RBytes.byte h h0
    refine run_convert_bytes_arg w _ _ Try.underlying61 Try.underlying5 b off xs.length cap xs rfl (fun i hi => ?_) _ Try.underlying9
    obtain ⟨b', off', e, -, hc, -, -⟩ := RBytes.byte h hi
    simp only [Option.some.injEq, Addr.mk.injEq, and_true] at e
    obtain ⟨rfl, rfl⟩ := e
    rw [hc, getD_at0 hi]
theorem splitG_len {xs : List Int} : ∀ (f p : Nat) {ys : List (List Int)}, splitG xs f p = some ys → p ≤ xs.length → 2 * ys.length + p ≤ xs.length
  | 0, p, ys, h, hp => by
    unfold splitG at h
    split at h
    · cases h
    · cases h; simpa using hp
  | f + 1, p, ys, h, hp => by
    unfold splitG at h
    split at h
    · rename_i hlt
      rcases ht : takeG xs p with _ | ⟨x, q⟩
      · rw [ht] at h; cases h
      · rw [ht] at h
        obtain ⟨zs, hz, rfl⟩ := Option.map_eq_some_iff.1 h
        obtain ⟨k1, k2, -⟩ := takeG_some ht
        have := splitG_len f q hz k2
        simp only [List.length_cons]; omega
    · cases h; simpa using hp
theorem splitV_len (xs : List Int) : (splitV xs).length ≤ 16384 := by
  unfold splitV
  split
  · simp
  · rcases h : splitG xs xs.length 0 with _ | ys
    · simp
    · have := splitG_len _ _ h (Nat.zero_le _)
      simp; omega
theorem takeG_len {xs : List Int} {p : Nat} {x : List Int} {q : Nat} (h : takeG xs p = some (x, q)) : x.length ≤ xs.length := by
  unfold takeG at h
  split at h
  · cases h
  · split at h
    · cases h
    · simp at h
      obtain ⟨rfl, -⟩ := h
      rw [List.length_take, List.length_drop]; omega
theorem splitG_each {xs : List Int} : ∀ (f p : Nat) {ys : List (List Int)}, splitG xs f p = some ys → ∀ y ∈ ys, y.length ≤ xs.length
  | 0, p, ys, h => by
    unfold splitG at h
    split at h
    · cases h
    · cases h; simp
  | f + 1, p, ys, h => by
    unfold splitG at h
    split at h
    · rcases ht : takeG xs p with _ | ⟨x, q⟩
      · rw [ht] at h; cases h
      · rw [ht] at h
        obtain ⟨zs, hz, rfl⟩ := Option.map_eq_some_iff.1 h
        intro y hy
        rcases List.mem_cons.1 hy with rfl | hy
        · exact takeG_len ht
        · exact splitG_each f q hz y hy
    · cases h; simp
theorem splitV_each (xs : List Int) : ∀ y ∈ splitV xs, y.length ≤ 16384 := by
  unfold splitV
  split
  · simp
  · rcases h : splitG xs xs.length 0 with _ | ys
    · simp
    · intro y hy
      have := splitG_each _ _ h y hy
      omega
def fieldsOk (l : List (List Int)) : Bool := decide (2 ≤ l.length ∧ (l.getD 1 []).length = 2)
def candsOf (l : List (List Int)) : Int := (l.getD 1 []).getD 0 0
def kindOf (l : List (List Int)) : Int := (l.getD 1 []).getD 1 0
def btcOf (l : List (List Int)) : Btc := ⟨strOfNums (l.getD 0 []), (l.drop 2).map fun f => ⟨kindOf l, f⟩⟩
def readI (xs : List Int) : Int := if splitE xs ≠ 0 then splitE xs else if fieldsOk (splitV xs) then (if recCheck [btcOf (splitV xs)] (candsOf (splitV xs)) (kindOf (splitV xs)) = 0 then 0 else 11) else 11
def readV (xs : List Int) : Btc × Int × Int := if readI xs = 0 then (btcOf (splitV xs), candsOf (splitV xs), kindOf (splitV xs)) else (⟨⟨#[]⟩, []⟩, 0, 0)
/-- What a call of Read gives. -/
def ReadGives (xs : List Int) (w : World) (e : Ending) (w' : World) : Prop :=
  ∃ a c, e = .returned (.tuple #[.agg #[.string (readV xs).1.name, .slice a (readV xs).1.blts.length c], .int .i64 (readV xs).2.1, .int .u8 (readV xs).2.2, .int .i64 (readI xs)]) ∧
    RBlts Any w' (.slice a (readV xs).1.blts.length c) (readV xs).1.blts ∧ Below w.heap.size w w'
theorem ReadGives.bad {xs : List Int} {w w' : World} {i : Int} (h : readI xs = i) (hi : i ≠ 0) (hb : Below w.heap.size w w') : ReadGives xs w (.returned (.tuple #[.agg #[.string ⟨#[]⟩, .slice none 0 0], .int .i64 0, .int .u8 0, .int .i64 i])) w' := by
  have e : readV xs = (⟨⟨#[]⟩, []⟩, 0, 0) := by rw [readV, if_neg (by rw [h]; exact hi)]
  subst h
  refine ⟨none, 0, by rw [e]; rfl, by rw [e]; exact RSl.nil, hb⟩
theorem ReadGives.good {xs : List Int} {w w' : World} {a : Option Addr} {n c : Nat} {l : List (List Int)} (hl : splitV xs = l) (h : readI xs = 0) (hr : RBlts Any w' (.slice a n c) (btcOf l).blts) (hb : Below w.heap.size w w') :
    ReadGives xs w (.returned (.tuple #[.agg #[.string (btcOf l).name, .slice a n c], .int .i64 (candsOf l), .int .u8 (kindOf l), .int .i64 0])) w' := by
  subst hl
  have e : readV xs = (btcOf (splitV xs), candsOf (splitV xs), kindOf (splitV xs)) := by rw [readV, if_pos h]
  obtain ⟨a', c', hv, -, -⟩ := RSl.shape hr
  simp only [Value.slice.injEq] at hv
  obtain ⟨rfl, rfl, rfl⟩ := hv
  exact ⟨a, c, by rw [e, h], by rw [e]; exact hr, hb⟩
/-- A field in memory: its value and its cell. -/
theorem RSl.field {S T : Nat → Prop} {w : World} {a : Option Addr} {n cap : Nat} {l : List (List Int)} (h : RSl S 1 (dField T) w (.slice a n cap) l) {k : Nat} (hk : k < l.length) :
    ∃ b off a' c', a = some ⟨b, off, none⟩ ∧ S b ∧ b < w.heap.size ∧ w.cell? ⟨b, off + k, none⟩ = some (.slice a' l[k].length c') ∧ RBytes T w (.slice a' l[k].length c') l[k] := by
  obtain ⟨b, off, c, rfl, hS, hb, hc, v, e, hr⟩ := RSl.at1 h k hk
  simp only [List.cons.injEq, and_true] at e
  subst e
  obtain ⟨a', c', rfl, -, -⟩ := id (RSl.shape hr)
  exact ⟨b, off, a', c', rfl, hS, hb, hc, hr⟩
theorem kind_wf {x : Int} (h0 : 0 ≤ x) (h1 : x ≤ 255) : (Lit.int .i64 x).wf = true := by
  simp [Lit.wf, IntKind.min, IntKind.max, IntKind.bits, IntKind.signed]
  omega
theorem RBytes.all {S : Nat → Prop} {w : World} {v : Value} {xs : List Int} (h : RBytes S w v xs) : ∀ x ∈ xs, 0 ≤ x ∧ x ≤ 255 := by
  intro x hx
  obtain ⟨i, hi, rfl⟩ := List.getElem_of_mem hx
  obtain ⟨a, cap, rfl, -, -⟩ := RSl.shape h
  obtain ⟨-, -, -, -, -, h1, h2⟩ := RBytes.byte h hi
  exact ⟨h1, h2⟩
end Go.Proofs.Ytkjgddcjhikdgaa
