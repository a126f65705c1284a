/- The law RecordNames returns true whatever the input, and every argument reads behind the call as it read before. No condition. -/
import Derived.Test.YtkjgddcjhikdgaaKGLive
import Derived.Test.YtkjgddcjhikdgaaKGTell
import Derived.Test.YtkjgddcjhikdgaaKGRead
import Derived.Test.YtkjgddcjhikdgaaRows
import Derived.Test.YtkjgddcjhikdgaaKGFoot
import Derived.Handy
import Derived.WalkKit
import Derived.ProofKit
import Derived.OpenShut
import Derived.ShutString
import Derived.ChangeOld
import Derived.Below

/- The calls of the law RecordNames, each at its own arguments. -/
namespace Go.Proofs.Ytkjgddcjhikdgaa
open Go Go.RowKit Go.Shelf

def b0 : Blt := ⟨1, []⟩
def nmK (k : Nat) : ByteArray := strOfNums [97 + (k : Int)]
def fullL : List Btc := [⟨⟨#[102]⟩, List.replicate 64 b0⟩]
def manyL : List Btc := (List.range 16).map fun k => ⟨nmK k, []⟩
def many17 : List Btc := manyL ++ [⟨⟨#[122]⟩, []⟩]
def dblL : List Btc := [⟨⟨#[97]⟩, []⟩, ⟨⟨#[97]⟩, []⟩]
def rdL : List Int := [0, 1, 65, 0, 2, 2, 1, 0, 1, 2]
theorem at_R1 : answAt tl3 2 1 0 1 = 0 := by kernel_rfl
theorem at_R2 : bltAt tl3 2 1 0 1 = bA := by kernel_rfl
theorem at_R3 : answAt tl3 2 1 2 0 = 6 := by kernel_rfl
theorem at_R4 : bltAt tl3 2 1 2 0 = ⟨0, []⟩ := by kernel_rfl
theorem at_R5 : answAt tl3 2 1 1 1 = 6 := by kernel_rfl
theorem at_R6 : bltAt tl3 2 1 1 1 = ⟨0, []⟩ := by kernel_rfl
theorem pu_R1 : putI tl3 2 1 ⟨#[122]⟩ ⟨1, [2]⟩ = 2 := by kernel_rfl
theorem pu_R2 : putI tl3 2 1 ⟨#[]⟩ ⟨1, [0]⟩ = 2 := by kernel_rfl
theorem pu_R3 : putI tl3 2 1 ⟨#[122]⟩ ⟨2, []⟩ = 2 := by kernel_rfl
theorem pu_R4 : putI fullL 2 1 ⟨#[102]⟩ b0 = 9 := by kernel_rfl
theorem pu_R5 : putI fullL 2 1 ⟨#[103]⟩ b0 = 0 := by kernel_rfl
theorem pu_R6 : (putL fullL 2 1 ⟨#[103]⟩ b0).length = 2 := by kernel_rfl
theorem pu_R7 : putI manyL 2 1 ⟨#[122]⟩ b0 = 9 := by kernel_rfl
theorem ta_R1 : tallyI many17 2 1 = 4 := by kernel_rfl
theorem ta_R2 : tallyI [] 11 1 = 2 := by kernel_rfl
theorem ta_R3 : tallyI [] 2 4 = 2 := by kernel_rfl
theorem ta_R4 : tallyI [] 2 2 = 0 := by kernel_rfl
theorem ta_R5 : tallyV [] 2 2 = ⟨2, 2, []⟩ := by kernel_rfl
theorem ch_R1 : recCheck dblL 2 1 = 8 := by kernel_rfl
theorem rd_R1 : readI rdL = 11 := by kernel_rfl
theorem at_at (bt k i : Int) (x : Blt) (v : Value) (w : World) (h : RBtcs Any w v tl3) (h1 : -9223372036854775808 ≤ bt ∧ bt ≤ 9223372036854775807) (h2 : -9223372036854775808 ≤ k ∧ k ≤ 9223372036854775807) (hI : answAt tl3 2 1 bt k = i) (hx : bltAt tl3 2 1 bt k = x) :
    Calls Try.prog 36 #[v, .int .i64 2, .int .u8 1, .int .i64 bt, .int .i64 k] w fun e w' => ∃ a c, e = .returned (.tuple #[.agg #[.int .u8 x.kind, .slice a x.marks.length c], .int .i64 i]) ∧ RInts Any w' (.slice a x.marks.length c) x.marks ∧ Below w.heap.size w w' := by
  refine (recordAt Any v tl3 2 1 bt k w h ⟨by decide, by decide⟩ h1 h2).mono ?_
  rintro e w' ⟨u, he, hu, hb⟩
  rw [hI] at he
  rw [hx] at hu
  obtain ⟨c, d, rfl, hd⟩ := hu.toV
  obtain ⟨a, cap, rfl, rfl, -, -, -, hi⟩ := hd.open
  exact ⟨a, cap, he, RInts.mono (fun _ _ => trivial) hi, hb⟩
theorem at_1 (v : Value) (w : World) (h : RBtcs Any w v tl3) : Calls Try.prog 36 #[v, .int .i64 2, .int .u8 1, .int .i64 0, .int .i64 1] w fun e w' => ∃ a c, e = .returned (.tuple #[.agg #[.int .u8 1, .slice a 2 c], .int .i64 0]) ∧ RInts Any w' (.slice a 2 c) [0, 1] ∧ Below w.heap.size w w' :=
  at_at 0 1 0 bA v w h (by omega) (by omega) at_R1 at_R2
theorem at_2 (v : Value) (w : World) (h : RBtcs Any w v tl3) : Calls Try.prog 36 #[v, .int .i64 2, .int .u8 1, .int .i64 2, .int .i64 0] w fun e w' => ∃ a c, e = .returned (.tuple #[.agg #[.int .u8 0, .slice a 0 c], .int .i64 6]) ∧ RInts Any w' (.slice a 0 c) [] ∧ Below w.heap.size w w' :=
  at_at 2 0 6 ⟨0, []⟩ v w h (by omega) (by omega) at_R3 at_R4
theorem at_3 (v : Value) (w : World) (h : RBtcs Any w v tl3) : Calls Try.prog 36 #[v, .int .i64 2, .int .u8 1, .int .i64 1, .int .i64 1] w fun e w' => ∃ a c, e = .returned (.tuple #[.agg #[.int .u8 0, .slice a 0 c], .int .i64 6]) ∧ RInts Any w' (.slice a 0 c) [] ∧ Below w.heap.size w w' :=
  at_at 1 1 6 ⟨0, []⟩ v w h (by omega) (by omega) at_R5 at_R6
theorem put_err {l : List Btc} {nm : ByteArray} {b : Blt} {i : Int} (v u : Value) (w : World) (h : RBtcs Any w v l) (hu : VBlt Any w u b) (hnm : nm.size ≤ 140737488355328) (hsm : Small l) (hmk : b.marks.length ≤ 1000000) (hI : putI l 2 1 nm b = i) :
    Calls Try.prog 22 #[v, .int .i64 2, .int .u8 1, .string nm, u] w fun e w' => ∃ x, e = .returned (.tuple #[x, .int .i64 i]) ∧ Below w.heap.size w w' := by
  refine (put Any v u l 2 1 nm b w h hu hnm hsm hmk).mono ?_
  rintro e w' ⟨x, he, -, hb⟩
  rw [hI] at he
  exact ⟨x, he, hb⟩
theorem put_okR {l : List Btc} {nm : ByteArray} {b : Blt} {n : Nat} (v u : Value) (w : World) (h : RBtcs Any w v l) (hu : VBlt Any w u b) (hnm : nm.size ≤ 140737488355328) (hsm : Small l) (hmk : b.marks.length ≤ 1000000) (hI : putI l 2 1 nm b = 0) (hL : (putL l 2 1 nm b).length = n) :
    Calls Try.prog 22 #[v, .int .i64 2, .int .u8 1, .string nm, u] w fun e w' => ∃ a c, e = .returned (.tuple #[.slice a n c, .int .i64 0]) ∧ Below w.heap.size w w' := by
  refine (put Any v u l 2 1 nm b w h hu hnm hsm hmk).mono ?_
  rintro e w' ⟨x, he, ho, hb⟩
  rw [hI] at he
  obtain ⟨a, c, rfl, -, -⟩ := RSl.shape ho.toR
  rw [hL] at he
  exact ⟨a, c, he, hb⟩
theorem tal_at (c kind i : Int) (p : Prof) (l : List Btc) (v : Value) (w : World) (h : RBtcs Any w v l) (hI : tallyI l c kind = i) (hV : tallyV l c kind = p) :
    Calls Try.prog 59 #[v, .int .i64 c, .int .u8 kind] w fun e w' => ∃ a cc, e = .returned (.tuple #[.agg #[.int .i64 p.cands, .int .u8 p.kind, .slice a p.rows.length cc], .int .i64 i]) ∧ Below w.heap.size w w' := by
  refine (recTally Any v l c kind w h).mono ?_
  rintro e w' hh
  obtain ⟨a, cc, he, -, hb⟩ := TalOpen.of hI hV rfl hh
  exact ⟨a, cc, he, hb⟩
theorem smF : Small fullL := ⟨by decide, by decide⟩
theorem smM : Small manyL := ⟨by simp [manyL], fun b hb => by
  obtain ⟨k, -, rfl⟩ := List.mem_map.1 hb
  exact ⟨by simp, fun x hx => by simp at hx⟩⟩
theorem tal_b (l : List Btc) (c kind : Int) (h : tallyI l c kind ≠ 0) : tallyV l c kind = noP := by rw [tallyV, if_neg h]
theorem rp_1 (v u : Value) (w : World) (h : RBtcs Any w v tl3) (hu : VBlt Any w u ⟨1, [2]⟩) : Calls Try.prog 22 #[v, .int .i64 2, .int .u8 1, .string ⟨#[122]⟩, u] w fun e w' => ∃ x, e = .returned (.tuple #[x, .int .i64 2]) ∧ Below w.heap.size w w' :=
  put_err v u w h hu (by decide) ⟨by decide, by decide⟩ (by decide) pu_R1
theorem rp_2 (v u : Value) (w : World) (h : RBtcs Any w v tl3) (hu : VBlt Any w u ⟨1, [0]⟩) : Calls Try.prog 22 #[v, .int .i64 2, .int .u8 1, .string ⟨#[]⟩, u] w fun e w' => ∃ x, e = .returned (.tuple #[x, .int .i64 2]) ∧ Below w.heap.size w w' :=
  put_err v u w h hu (by decide) ⟨by decide, by decide⟩ (by decide) pu_R2
theorem rp_3 (v u : Value) (w : World) (h : RBtcs Any w v tl3) (hu : VBlt Any w u ⟨2, []⟩) : Calls Try.prog 22 #[v, .int .i64 2, .int .u8 1, .string ⟨#[122]⟩, u] w fun e w' => ∃ x, e = .returned (.tuple #[x, .int .i64 2]) ∧ Below w.heap.size w w' :=
  put_err v u w h hu (by decide) ⟨by decide, by decide⟩ (by decide) pu_R3
theorem rp_4 (v u : Value) (w : World) (h : RBtcs Any w v fullL) (hu : VBlt Any w u b0) : Calls Try.prog 22 #[v, .int .i64 2, .int .u8 1, .string ⟨#[102]⟩, u] w fun e w' => ∃ x, e = .returned (.tuple #[x, .int .i64 9]) ∧ Below w.heap.size w w' :=
  put_err v u w h hu (by decide) smF (by decide) pu_R4
theorem rp_6 (v u : Value) (w : World) (h : RBtcs Any w v manyL) (hu : VBlt Any w u b0) : Calls Try.prog 22 #[v, .int .i64 2, .int .u8 1, .string ⟨#[122]⟩, u] w fun e w' => ∃ x, e = .returned (.tuple #[x, .int .i64 9]) ∧ Below w.heap.size w w' :=
  put_err v u w h hu (by decide) smM (by decide) pu_R7
theorem rp_5 (v u : Value) (w : World) (h : RBtcs Any w v fullL) (hu : VBlt Any w u b0) : Calls Try.prog 22 #[v, .int .i64 2, .int .u8 1, .string ⟨#[103]⟩, u] w fun e w' => ∃ a c, e = .returned (.tuple #[.slice a 2 c, .int .i64 0]) ∧ Below w.heap.size w w' :=
  put_okR v u w h hu (by decide) smF (by decide) pu_R5 pu_R6
/-! The blocks that the law fills. -/
def f1 (n : Nat) : List Value := (List.replicate n [Value.int .u8 1, .slice none 0 0]).flatten
def f0 (n : Nat) : List Value := (List.replicate n [Value.int .u8 0, .slice none 0 0]).flatten
def aF (k : Nat) : Array Value := (f1 k ++ f0 (64 - k)).toArray
def m1 (n : Nat) : List Value := ((List.range n).map fun k => [Value.string (nmK k), .slice none 0 0]).flatten
def m0 (n : Nat) : List Value := (List.replicate n [Value.string ⟨#[]⟩, .slice none 0 0]).flatten
def aM (k : Nat) : Array Value := (m1 k ++ m0 (16 - k)).toArray
theorem mk64 (w : World) : (Instr.makeSlice 62 (.int .i64 64) (.int .i64 64)).run Try.prog w = .ok (.slice (some ⟨w.heap.size, 0, none⟩) 64 64) (w.alloc (.cells (aF 0) 25)) := by kernel_rfl
theorem mk16 (w : World) : (Instr.makeSlice 22 (.int .i64 16) (.int .i64 16)).run Try.prog w = .ok (.slice (some ⟨w.heap.size, 0, none⟩) 16 16) (w.alloc (.cells (aM 0) 64)) := by kernel_rfl
theorem f1_len (n : Nat) : (f1 n).length = n * 2 := by simp [f1]
theorem m1_len (n : Nat) : (m1 n).length = n * 2 := by
  induction n with
  | zero => rfl
  | succ n ih => rw [m1, List.range_succ, List.map_append, List.flatten_append, List.length_append]; rw [m1] at ih; rw [ih]; simp; omega
theorem f1_succ (n : Nat) : f1 (n + 1) = f1 n ++ [Value.int .u8 1, .slice none 0 0] := by rw [f1, List.replicate_succ', List.flatten_append]; rfl
theorem m1_succ (n : Nat) : m1 (n + 1) = m1 n ++ [Value.string (nmK n), .slice none 0 0] := by rw [m1, List.range_succ, List.map_append, List.flatten_append]; rfl
theorem set_2 {A R : List Value} {n : Nat} (h : A.length = n) (x y a b : Value) : (((A ++ x :: y :: R).toArray.setIfInBounds n a).setIfInBounds (n + 1) b) = (A ++ a :: b :: R).toArray := by
  subst h
  simp
theorem set_1 {A R : List Value} {n : Nat} (h : A.length = n) (x a : Value) : ((A ++ x :: R).toArray.setIfInBounds n a) = (A ++ a :: R).toArray := by
  subst h
  simp
theorem aF_form {k : Nat} (hk : k < 64) : aF k = (f1 k ++ Value.int .u8 0 :: .slice none 0 0 :: f0 (63 - k)).toArray := by
  rw [aF, show 64 - k = (63 - k) + 1 by omega, f0, List.replicate_succ, List.flatten_cons]; rfl
theorem aM_form {k : Nat} (hk : k < 16) : aM k = (m1 k ++ Value.string ⟨#[]⟩ :: .slice none 0 0 :: m0 (15 - k)).toArray := by
  rw [aM, show 16 - k = (15 - k) + 1 by omega, m0, List.replicate_succ, List.flatten_cons]; rfl
theorem aF_set {k : Nat} (hk : k < 64) : ((aF k).setIfInBounds (k * 2) (.int .u8 1)).setIfInBounds (k * 2 + 1) (.slice none 0 0) = aF (k + 1) := by
  rw [aF_form hk, set_2 (f1_len k), aF, f1_succ, show 64 - (k + 1) = 63 - k by omega]; simp
theorem aM_set {k : Nat} (hk : k < 16) : (aM k).setIfInBounds (k * 2) (.string (nmK k)) = aM (k + 1) := by
  rw [aM_form hk, set_1 (m1_len k), aM, m1_succ, show 16 - (k + 1) = 15 - k by omega]; simp
theorem aF_at {k : Nat} (hk : k < 64) : (aF k)[k * 2]? = some (.int .u8 0) ∧ (aF k)[k * 2 + 1]? = some (.slice none 0 0) := by
  rw [aF_form hk]
  have := f1_len k
  constructor <;> simp [this]
theorem aM_at {k : Nat} (hk : k < 16) : (aM k)[k * 2]? = some (.string ⟨#[]⟩) := by
  rw [aM_form hk]
  have := m1_len k
  simp [this]
theorem full_at {W : World} {g1 g2 : Nat} (h1 : W.heap[g1]? = some (.cells (aF 64) 25 (0, 0))) (h2 : W.heap[g2]? = some (.cells #[.string ⟨#[102]⟩, .slice (some ⟨g1, 0, none⟩) 64 64] 64 (0, 0))) : RBtcs Any W (.slice (some ⟨g2, 0, none⟩) 1 1) fullL := by
  have hd : ∀ n, Dec 2 (dBlt Any) W (f1 n) (List.replicate n b0) := by
    intro n
    induction n with
    | zero => exact Dec.nil _ _ _
    | succ n ih => rw [f1_succ, List.replicate_succ']; exact Dec.append ih (Dec.single rfl ⟨_, rfl, by decide, by decide, RSl.nil⟩)
  have e : aF 64 = (f1 64).toArray := by rw [aF]; simp [f0]
  rw [e] at h1
  have hb : RBlts Any W (.slice (some ⟨g1, 0, none⟩) 64 64) (List.replicate 64 b0) := RSl.lay (cells := f1 64) (xs := List.replicate 64 b0) trivial h1 (hd 64) (by simp)
  exact RSl.lay (cells := [.string ⟨#[102]⟩, .slice (some ⟨g1, 0, none⟩) 64 64]) (xs := fullL) trivial h2 (Dec.single rfl ⟨_, rfl, by decide, hb⟩) (by simp [fullL])
theorem many_dec (W : World) (n : Nat) : Dec 2 (dBtc (fun _ => False)) W (m1 n) ((List.range n).map fun k => (⟨nmK k, []⟩ : Btc)) := by
  induction n with
  | zero => exact Dec.nil _ _ _
  | succ n ih =>
    rw [m1_succ, List.range_succ, List.map_append]
    exact Dec.append ih (Dec.single rfl ⟨_, rfl, by show (nmK n).size ≤ _; rw [nmK, strOfNums_size]; simp, RSl.nil⟩)
theorem many_own {W : World} {g base : Nat} (h : W.heap[g]? = some (.cells (aM 16) 64 (0, 0))) (hb : base ≤ g) : Own base 64 2 (dBtc (fun _ => False)) W (.slice (some ⟨g, 0, none⟩) 16 16) manyL := by
  have e : aM 16 = (m1 16).toArray := by rw [aM]; simp [m0]
  rw [e] at h
  exact Own.lay (xs := manyL) h hb (many_dec W 16) (by simp [manyL, maxLen])
theorem own_btcs {base : Nat} {W : World} {v : Value} {l : List Btc} (h : Own base 64 2 (dBtc (fun _ => False)) W v l) (hl : l.length ≤ 140737488355328) : RBtcs Any W v l :=
  RSl.mono (fun _ _ _ hd => dBtc.mono (fun _ h => h.elim) hd) (fun _ _ => trivial) (Own.rsl h hl)
theorem ta_1 (v : Value) (w : World) (h : RBtcs Any w v many17) : Calls Try.prog 59 #[v, .int .i64 2, .int .u8 1] w fun e w' => ∃ a cc, e = .returned (.tuple #[.agg #[.int .i64 0, .int .u8 0, .slice a 0 cc], .int .i64 4]) ∧ Below w.heap.size w w' :=
  tal_at 2 1 4 noP many17 v w h ta_R1 (tal_b _ _ _ (by rw [ta_R1]; decide))
theorem ta_2 (w : World) : Calls Try.prog 59 #[.slice none 0 0, .int .i64 11, .int .u8 1] w fun e w' => ∃ a cc, e = .returned (.tuple #[.agg #[.int .i64 0, .int .u8 0, .slice a 0 cc], .int .i64 2]) ∧ Below w.heap.size w w' :=
  tal_at 11 1 2 noP [] _ w RSl.nil ta_R2 (tal_b _ _ _ (by rw [ta_R2]; decide))
theorem ta_3 (w : World) : Calls Try.prog 59 #[.slice none 0 0, .int .i64 2, .int .u8 4] w fun e w' => ∃ a cc, e = .returned (.tuple #[.agg #[.int .i64 0, .int .u8 0, .slice a 0 cc], .int .i64 2]) ∧ Below w.heap.size w w' :=
  tal_at 2 4 2 noP [] _ w RSl.nil ta_R3 (tal_b _ _ _ (by rw [ta_R3]; decide))
theorem ta_4 (w : World) : Calls Try.prog 59 #[.slice none 0 0, .int .i64 2, .int .u8 2] w fun e w' => ∃ a cc, e = .returned (.tuple #[.agg #[.int .i64 2, .int .u8 2, .slice a 0 cc], .int .i64 0]) ∧ Below w.heap.size w w' :=
  tal_at 2 2 0 ⟨2, 2, []⟩ [] _ w RSl.nil ta_R4 ta_R5
theorem dbl_at (W : World) : RBtcs Any (W.alloc (.cells #[.string ⟨#[97]⟩, .slice none 0 0, .string ⟨#[97]⟩, .slice none 0 0] 64)) (.slice (some ⟨W.heap.size, 0, none⟩) 2 2) dblL :=
  RSl.lay (cells := [.string ⟨#[97]⟩, .slice none 0 0] ++ [.string ⟨#[97]⟩, .slice none 0 0]) (xs := ([⟨⟨#[97]⟩, []⟩] : List Btc) ++ ([⟨⟨#[97]⟩, []⟩] : List Btc)) trivial (box_new W _) (Dec.append (Dec.single rfl ⟨_, rfl, by decide, RSl.nil⟩) (Dec.single rfl ⟨_, rfl, by decide, RSl.nil⟩)) (by decide)
theorem rd_at (W : World) : RBytes Any (W.alloc (.cells #[.int .u8 0, .int .u8 1, .int .u8 65, .int .u8 0, .int .u8 2, .int .u8 2, .int .u8 1, .int .u8 0, .int .u8 1, .int .u8 2] 5)) (.slice (some ⟨W.heap.size, 0, none⟩) 10 10) rdL := by
  have hd : ∀ xs : List Int, (∀ x ∈ xs, 0 ≤ x ∧ x ≤ 255) → Dec 1 (dInt .u8) (W.alloc (.cells #[.int .u8 0, .int .u8 1, .int .u8 65, .int .u8 0, .int .u8 2, .int .u8 2, .int .u8 1, .int .u8 0, .int .u8 1, .int .u8 2] 5)) (xs.map (Value.int .u8)) xs := by
    intro xs
    induction xs with
    | nil => intro _; exact Dec.nil _ _ _
    | cons x xs ih =>
      intro hx
      have := hx x (List.mem_cons_self ..)
      show Dec 1 (dInt .u8) _ ([Value.int .u8 x] ++ xs.map (Value.int .u8)) ([x] ++ xs)
      exact Dec.append (Dec.single rfl ⟨rfl, byte_wf this.1 this.2⟩) (ih fun y hy => hx y (List.mem_cons_of_mem _ hy))
  exact RSl.lay (cells := rdL.map (Value.int .u8)) (xs := rdL) trivial (box_new W _) (hd rdL (by decide)) (by decide)
theorem ck_R (v : Value) (w : World) (h : RBtcs Any w v dblL) : Calls Try.prog 39 #[v, .int .i64 2, .int .u8 1] w fun e w' => e = .returned (.int .i64 8) ∧ Below w.heap.size w w' := by
  have := recordCheck Any v dblL 2 1 w h
  rwa [ch_R1] at this
theorem rd_R (v : Value) (w : World) (h : RBytes Any w v rdL) : Calls Try.prog 45 #[v] w fun e w' => ∃ nm a n c x y, e = .returned (.tuple #[.agg #[.string nm, .slice a n c], .int .i64 x, .int .u8 y, .int .i64 11]) ∧ Below w.heap.size w w' := by
  refine (recordRead Any v rdL w h (by decide)).mono ?_
  rintro e w' ⟨a, c, he, -, hb⟩
  rw [rd_R1] at he
  exact ⟨_, a, _, c, _, _, he, hb⟩
theorem blt1_at (n : Int) (hn : (Lit.int .i64 n).wf = true) (W w1 : World) (hb : Below (W.alloc (.cells #[.int .i64 n] 3)).heap.size (W.alloc (.cells #[.int .i64 n] 3)) w1) : VBlt Any w1 (.agg #[.int .u8 1, .slice (some ⟨W.heap.size, 0, none⟩) 1 1]) ⟨1, [n]⟩ :=
  ⟨_, _, rfl, ⟨_, rfl, by show (0 : Int) ≤ 1; omega, by show (1 : Int) ≤ 255; omega, RInts.same (.of_below hb) (i1_at n hn W)⟩⟩
theorem bz_at (k : Int) (h0 : 0 ≤ k) (h1 : k ≤ 255) (w : World) : VBlt Any w (.agg #[.int .u8 k, .slice none 0 0]) ⟨k, []⟩ := ⟨_, _, rfl, ⟨_, rfl, h0, h1, RSl.nil⟩⟩
end Go.Proofs.Ytkjgddcjhikdgaa

/- The walk of the law RecordNames. -/
namespace Go.Proofs.Ytkjgddcjhikdgaa
open Go Go.RowKit Go.Shelf

/-- How far the walk has come. -/
inductive Stg : Nat → Prop
  | mk (n : Nat) : Stg n
set_option maxHeartbeats 16000000 in
set_option maxRecDepth 100000 in
theorem law_rnames (w : World) : Calls Try.prog 16 #[] w fun e w' => e = .returned (.bool true) ∧ Below w.heap.size w w' := by
  have hst := Stg.mk 0
  go_enter Try.func16, Try.ntmps16
  have hmk1 := mk64
  have hmk2 := mk16
  go_wp2_with (first
    | (have := (hst : Stg 0); go_at_call 67; clear this hst; refine (three26 _).mono ?_; rintro e w1 ⟨a1, c1, rfl, hl, hp1⟩; have hz1 := hp1.size; have HL := Lib.hid (fun W (hW : Below w1.heap.size w1 W) => hl.same (.of_below hW)); have hB1 := Below.refl w1.heap.size w1; clear hl; have hst := Stg.mk 1)
    | (have := (hst : Stg 1); go_at_call 36; clear this hst; refine (at_1 _ _ (HL.out _ hB1)).mono ?_; rintro e w2 ⟨a2, c2, rfl, hi, hB2⟩; have HA := Lib.hid (RInts.same (.of_below (below_new w2 (.cells #[.int .u8 1, .slice a2 2 c2] 25))) hi); have hA2 := belT hB2 (below_new w2 (.cells #[.int .u8 1, .slice a2 2 c2] 25)) hB2.size; have hQ2 := Below.refl (w2.alloc (.cells #[.int .u8 1, .slice a2 2 c2] 25)).heap.size (w2.alloc (.cells #[.int .u8 1, .slice a2 2 c2] 25)); clear hi; have hst := Stg.mk 2)
    | (have := (hst : Stg 2); go_at_call 36; clear this hst; refine (at_2 _ _ (HL.out _ hA2)).mono ?_; rintro e w3 ⟨a3, c3, rfl, hi, hb⟩; have hB3 := belT hA2 hb hA2.size; have hA3 := belT hB3 (below_new w3 (.cells #[.int .u8 0, .slice a3 0 c3] 25)) hB3.size; have hQ3 := belT hQ2 hb hQ2.size; have hR3 := belT hQ3 (below_new w3 (.cells #[.int .u8 0, .slice a3 0 c3] 25)) hQ3.size; clear hi hb; have hst := Stg.mk 3)
    | (have := (hst : Stg 3); go_at_call 36; clear this hst; refine (at_3 _ _ (HL.out _ hA3)).mono ?_; rintro e w4 ⟨a4, c4, rfl, hi, hb⟩; have hB4 := belT hA3 hb hA3.size; have hA4 := belT hB4 (below_new w4 (.cells #[.int .u8 0, .slice a4 0 c4] 25)) hB4.size; have hQ4 := belT hR3 hb hR3.size; have hR4 := belT hQ4 (below_new w4 (.cells #[.int .u8 0, .slice a4 0 c4] 25)) hQ4.size; have hA4b := belT hA4 (below_new (w4.alloc (.cells #[.int .u8 0, .slice a4 0 c4] 25)) (.cells #[.int .i64 2] 3)) hA4.size; have hR4b := belT hR4 (below_new (w4.alloc (.cells #[.int .u8 0, .slice a4 0 c4] 25)) (.cells #[.int .i64 2] 3)) hR4.size; clear hi hb; have hst := Stg.mk 4)
    | (have := (hst : Stg 4); go_at_call 68; clear this hst; refine (ranks26 _ _ _ _).mono ?_; rintro e w5 ⟨rfl, hb⟩; have hB5 := belT hA4b hb hA4b.size; have hQ5 := belT hR4b hb hR4b.size; have HB0 := blt1_at 2 (by decide) (w4.alloc (.cells #[.int .u8 0, .slice a4 0 c4] 25)) w5 hb; rw [World.size_alloc] at HB0; have HB := Lib.hid HB0; clear hb HB0; have hst := Stg.mk 5)
    | (have := (hst : Stg 5); go_at_call 22; clear this hst; refine (rp_1 _ _ _ (HL.out _ hB5) HB.out).mono ?_; rintro e w6 ⟨v6, rfl, hb⟩; have hB6 := belT hB5 hb hB5.size; have hA6 := belT hB6 (below_new w6 (.cells #[.int .i64 0] 3)) hB6.size; have hQ6 := belT hQ5 hb hQ5.size; have hR6 := belT hQ6 (below_new w6 (.cells #[.int .i64 0] 3)) hQ6.size; clear hb HB; have hst := Stg.mk 6)
    | (have := (hst : Stg 6); go_at_call 68; clear this hst; refine (ranks26 _ _ _ _).mono ?_; rintro e w7 ⟨rfl, hb⟩; have hB7 := belT hA6 hb hA6.size; have hQ7 := belT hR6 hb hR6.size; have HB := Lib.hid (blt1_at 0 (by decide) w6 w7 hb); clear hb; have hst := Stg.mk 7)
    | (have := (hst : Stg 7); go_at_call 22; clear this hst; refine (rp_2 _ _ _ (HL.out _ hB7) HB.out).mono ?_; rintro e w8 ⟨v8, rfl, hb⟩; have hB8 := belT hB7 hb hB7.size; have hQ8 := belT hQ7 hb hQ7.size; clear hb HB; have hst := Stg.mk 8)
    | (have := (hst : Stg 8); go_at_call 22; clear this hst; refine (rp_3 _ _ _ (HL.out _ hB8) (bz_at 2 (by decide) (by decide) _)).mono ?_; rintro e w9 ⟨v9, rfl, hb⟩; have hB9 := belT hB8 hb hB8.size; have hQ9 := belT hQ8 hb hQ8.size; clear hb; have hst := Stg.mk 9))
  have hq3 := hQ9
  have hzq9 := hQ9.size
  simp only [World.size_alloc] at hzq9
  have hp := belT hp1 hB9 hz1
  have hz := hp.size
  clear HL hB1 hB2 hA2 hQ2 hB3 hA3 hQ3 hR3 hB4 hA4 hQ4 hR4 hA4b hR4b hB5 hQ5 hB6 hA6 hQ6 hR6 hB7 hQ7 hB8 hQ8 hB9 hQ9
  have hb9 : Below w.heap.size w w9 := hp
  have hz9 := hb9.size
  clear hp hz
  have Hq9 := Lib.hid hq3
  clear hq3 hst
  go_loopw [16] (fun i wr => ∃ k : Nat, k ≤ 64 ∧ i = .int .i64 k ∧ wr.heap[w9.heap.size]? = some (.cells (aF k) 25 (0, 0)) ∧ wr.heap[w9.heap.size + 1]? = some (.cells #[.string ⟨#[102]⟩, .slice (some ⟨w9.heap.size, 0, none⟩) 64 64] 64 (0, 0)) ∧ Below w9.heap.size w9 wr) (fun i _ => 64 - (intOf i).toNat)
  case atStart =>
    have hbn := box_new (w9.alloc (.cells (aF 0) 25)) (.cells #[.string ⟨#[102]⟩, .slice (some ⟨w9.heap.size, 0, none⟩) 64 64] 64)
    rw [World.size_alloc] at hbn
    exact ⟨0, by omega, rfl, box_old _ (box_new w9 _), hbn, ((below_new w9 _).alloc (by simp) _)⟩
  case round =>
    obtain ⟨k, hk, rfl, hf1, hf2, hbr⟩ := hrel
    have hzr := hbr.size
    have hg1 := size_of_box hf1
    have hg2 := size_of_box hf2
    by_cases hlt : k < 64
    · obtain ⟨q1, q2⟩ := aF_at hlt
      have hkc : ∀ W, Below wr.heap.size wr W → W.cell? ⟨w9.heap.size + 1, 0, none⟩ = some (.string ⟨#[102]⟩) ∧ W.cell? ⟨w9.heap.size + 1, 1, none⟩ = some (.slice (some ⟨w9.heap.size, 0, none⟩) 64 64) ∧ W.cell? ⟨w9.heap.size, k * 2, none⟩ = some (.int .u8 0) ∧ W.cell? ⟨w9.heap.size, k * 2 + 1, none⟩ = some (.slice none 0 0) ∧ W.frozen? ⟨w9.heap.size, k * 2, none⟩ = false ∧ W.frozen? ⟨w9.heap.size, k * 2 + 1, none⟩ = false := fun W hW => by
        have x1 := own_box hW hg1 hf1
        have x2 := own_box hW hg2 hf2
        exact ⟨(x2.2.1 0).trans rfl, (x2.2.1 1).trans rfl, (x1.2.1 _).trans q1, (x1.2.1 _).trans q2, x1.2.2 _, x1.2.2 _⟩
      have hfin : ∀ W, Below wr.heap.size wr W → ((W.setCell ⟨w9.heap.size, k * 2, none⟩ (.int .u8 1)).setCell ⟨w9.heap.size, k * 2 + 1, none⟩ (.slice none 0 0)).heap[w9.heap.size]? = some (.cells (aF (k + 1)) 25 (0, 0)) ∧ ((W.setCell ⟨w9.heap.size, k * 2, none⟩ (.int .u8 1)).setCell ⟨w9.heap.size, k * 2 + 1, none⟩ (.slice none 0 0)).heap[w9.heap.size + 1]? = some (.cells #[.string ⟨#[102]⟩, .slice (some ⟨w9.heap.size, 0, none⟩) 64 64] 64 (0, 0)) ∧ Below w9.heap.size w9 ((W.setCell ⟨w9.heap.size, k * 2, none⟩ (.int .u8 1)).setCell ⟨w9.heap.size, k * 2 + 1, none⟩ (.slice none 0 0)) := fun W hW => by
        have h1 := (hW.block _ hg1).trans hf1
        have h2 := (hW.block _ hg2).trans hf2
        refine ⟨?_, (Below.heap_setCell _ _ _ _ (by simp)).trans ((Below.heap_setCell _ _ _ _ (by simp)).trans h2), ((hbr.trans (hW.mono hzr)).setCell (p := ⟨w9.heap.size, k * 2, none⟩) (Nat.le_refl _) _).setCell (p := ⟨w9.heap.size, k * 2 + 1, none⟩) (Nat.le_refl _) _⟩
        have := heap_setCell_at (o := k * 2 + 1) (heap_setCell_at (o := k * 2) h1 (.int .u8 1)) (.slice none 0 0)
        rwa [aF_set hlt] at this
      obtain ⟨e0, e1, e2, e3, e4, e5⟩ := hkc wr (Below.refl _ _)
      have Hkc := Lib.hid hkc; have Hfin := Lib.hid hfin
      clear hkc hfin q1 q2 hf1 hf2
      go_wp2
      go_region_law (go_simp; go_at_call 68; refine (ranks26 _ _ _ _).mono ?_; rintro e w' ⟨rfl, hb⟩; have hbW := belT (Below.drew (Below.refl wr.heap.size wr)) hb (Nat.le_refl _); obtain ⟨j0, j1, j2, j3, j4, j5⟩ := Hkc.out w' hbW; have hlt1 := hbW.size)
      all_goals
        go_wp2
        obtain ⟨k1, k2, k3⟩ := Hfin.out w' hbW
        exact ⟨⟨k + 1, by omega, by go_num, k1, k2, k3⟩, by simp [intOf]; omega⟩
    · obtain rfl : k = 64 := by omega
      have hF := fun W (hW : Below wr.heap.size wr W) => full_at ((hW.block _ hg1).trans hf1) ((hW.block _ hg2).trans hf2)
      have hpr : Below w.heap.size w wr := hb9.trans (hbr.mono hz9)
      have hzr2 := hpr.size
      have HF := Lib.hid hF
      clear hF hf1 hf2
      have hst := Stg.mk 0
      go_wp2_with (first
        | (have := (hst : Stg 0); go_at_call 68; clear this hst; refine (ranks26 _ _ _ _).mono ?_; rintro e w10 ⟨rfl, hb10⟩; have hz10 := hb10.size; have hst := Stg.mk 1)
        | (have := (hst : Stg 1); go_at_call 22; clear this hst; refine (rp_4 _ _ _ (HF.out _ hb10) (bz_at 1 (by decide) (by decide) _)).mono ?_; rintro e w11 ⟨v11, rfl, hb⟩; have hb11 := belT hb10 hb hz10; have hz11 := hb11.size; clear hb; have hst := Stg.mk 2)
        | (have := (hst : Stg 2); go_at_call 68; clear this hst; refine (ranks26 _ _ _ _).mono ?_; rintro e w12 ⟨rfl, hb⟩; have hb12 := belT hb11 hb hz11; have hz12 := hb12.size; clear hb; have hst := Stg.mk 3)
        | (have := (hst : Stg 3); go_at_call 22; clear this hst; refine (rp_5 _ _ _ (HF.out _ hb12) (bz_at 1 (by decide) (by decide) _)).mono ?_; rintro e w13 ⟨a13, c13, rfl, hb⟩; have hb13 := belT hb12 hb hz12; have hz13 := hb13.size; clear hb))
      have hbA := hpr.trans (hb13.mono hzr2)
      have hzA := hbA.size
      have hqA := Hq9.out.trans ((hbr.trans (hb13.mono hzr)).mono (by simp only [World.size_alloc]; omega))
      have HqA := Lib.hid hqA
      clear hqA hb10 hb11 hb12 hz10 hz11 hz12 HF hbr hzr hg1 hg2 hpr hzr2 hb13 hz13
      go_loopw [22] (fun i w2' => ∃ k : Nat, k ≤ 16 ∧ i = .int .i64 k ∧ w2'.heap[w13.heap.size]? = some (.cells (aM k) 64 (0, 0)) ∧ Below w13.heap.size w13 w2') (fun i _ => 16 - (intOf i).toNat)
      case atStart => exact ⟨0, by omega, rfl, box_new w13 _, below_new w13 _⟩
      case round =>
        obtain ⟨k, hk, rfl, hm1, hbr⟩ := hrel
        have hzr := hbr.size
        have hg1 := size_of_box hm1
        by_cases hlt : k < 16
        · have q1 := aM_at hlt
          have hwr : IntKind.u8.wrap (97 + (k : Int)) = 97 + (k : Int) := by rw [IntKind.wrap_u8]; omega
          have hwk : IntKind.u8.wrap (k : Int) = (k : Int) := by rw [IntKind.wrap_u8]; omega
          have hcv : (convert 61 9 (.slice (some ⟨wr.heap.size, 0, none⟩) 1 1)).run Try.prog (wr.alloc (.cells #[.int .u8 (97 + (k : Int))] 5)) = .ok (.string (nmK k)) (wr.alloc (.cells #[.int .u8 (97 + (k : Int))] 5)) := by
            have : RBytes Any (wr.alloc (.cells #[.int .u8 (97 + (k : Int))] 5)) (.slice (some ⟨wr.heap.size, 0, none⟩) 1 1) [97 + (k : Int)] :=
              RSl.lay (cells := [.int .u8 (97 + (k : Int))]) (xs := [97 + (k : Int)]) trivial (box_new wr _) (Dec.single rfl ⟨rfl, byte_wf (by omega) (by omega)⟩) (by simp)
            exact RBytes.str this
          have x1 := own_box (Below.refl _ wr) hg1 hm1
          have e0 : wr.cell? ⟨w13.heap.size, k * 2, none⟩ = some (.string ⟨#[]⟩) := (x1.2.1 _).trans q1
          have e1 : wr.frozen? ⟨w13.heap.size, k * 2, none⟩ = false := x1.2.2 _
          have hfin : ((wr.setCell ⟨w13.heap.size, k * 2, none⟩ (.string (nmK k))).alloc (.cells #[.int .u8 (97 + (k : Int))] 5)).heap[w13.heap.size]? = some (.cells (aM (k + 1)) 64 (0, 0)) ∧ Below w13.heap.size w13 ((wr.setCell ⟨w13.heap.size, k * 2, none⟩ (.string (nmK k))).alloc (.cells #[.int .u8 (97 + (k : Int))] 5)) := by
            have := heap_setCell_at (o := k * 2) hm1 (.string (nmK k))
            rw [aM_set hlt] at this
            exact ⟨box_old _ this, (hbr.setCell (p := ⟨w13.heap.size, k * 2, none⟩) (Nat.le_refl _) _).alloc (by rw [size_setCell']; exact hzr) _⟩
          have Hfin := Lib.hid hfin
          clear hfin q1 x1 hm1
          go_wp2
          exact ⟨⟨k + 1, by omega, by go_num, Hfin.out.1, Hfin.out.2⟩, by simp [intOf]; omega⟩
        · obtain rfl : k = 16 := by omega
          have hM := fun W (hW : Below wr.heap.size wr W) => (hW.block _ hg1).trans hm1
          have HM := Lib.hid hM
          clear hM hm1
          have hst := Stg.mk 0
          go_wp2_with (first
            | (have := (hst : Stg 0); go_at_call 68; clear this hst; refine (ranks26 _ _ _ _).mono ?_; rintro e w14 ⟨rfl, hD14⟩; have hC14 := belT hbr hD14 hzr; have hst := Stg.mk 1)
            | (have := (hst : Stg 1); go_at_call 22; clear this hst; refine (rp_6 _ _ _ (own_btcs (many_own (HM.out w14 hD14) (Nat.le_refl _)) (by simp [manyL])) (bz_at 1 (by decide) (by decide) _)).mono ?_; rintro e w15 ⟨v15, rfl, hb⟩; have hD15 := belT hD14 hb hD14.size; have hC15 := belT hC14 hb hC14.size; have hzC15 := hC15.size; have hA15 := belT hC15 (below_new w15 (.cells #[.string ⟨#[122]⟩, .slice none 0 0] 64)) hzC15; have HOw := Lib.hid (many_own (box_old (.cells #[.string ⟨#[122]⟩, .slice none 0 0] 64) (HM.out w15 hD15)) (Nat.le_refl w13.heap.size)); have hu : RSl (From 0) 2 (dBtc (fun _ => False)) (w15.alloc (.cells #[.string ⟨#[122]⟩, .slice none 0 0] 64)) (.slice (some ⟨w15.heap.size, 0, none⟩) 1 1) [(⟨⟨#[122]⟩, []⟩ : Btc)] := RSl.built (cs := [.string ⟨#[122]⟩, .slice none 0 0]) (Nat.zero_le _) (box_new _ _) rfl ⟨_, rfl, by decide, RSl.nil⟩; have Hu := Lib.hid hu; clear hb hu hD14 hD15 HM; have hst := Stg.mk 2)
            | (have := (hst : Stg 2); at_builtin; clear this hst; go_must (refine wpList_appV _ Try.infoBtc rfl rfl Try.underlying22 ⟨rfl, by omega, by omega⟩ (dBtc.one _) (dBtc.stable (fun _ => False)) w13.heap.size HOw.out rfl Hu.out rfl (by simp [manyL]) (by simp; omega) ?_); intro a16 n16 c16 w16 hg hat ho1; have hC16 := hA15.grown hg (by simp; omega) (fun b hb => by simp [Value.ownBlock] at hb; omega); have Hm17 := Lib.hid (own_btcs (ho1 (fun _ _ h => h.elim)) (by simp [manyL])); clear hg hat ho1 HOw Hu hA15 hC15 hzC15 hC14; have hst := Stg.mk 3)
            | (have := (hst : Stg 3); go_at_call 59; clear this hst; refine (ta_1 _ _ Hm17.out).mono ?_; rintro e w17 ⟨a17, c17, rfl, hb⟩; have hC17 := belT hC16 hb hC16.size; have hA17 := belT hC17 (below_new w17 (.cells #[.int .i64 0, .int .u8 0, .slice a17 0 c17] 98)) hC17.size; clear hb Hm17 hC16; have hst := Stg.mk 4)
            | (have := (hst : Stg 4); go_at_call 59; clear this hst; refine (ta_2 _).mono ?_; rintro e w18 ⟨a18, c18, rfl, hb⟩; have hC18 := belT hA17 hb hA17.size; have hA18 := belT hC18 (below_new w18 (.cells #[.int .i64 0, .int .u8 0, .slice a18 0 c18] 98)) hC18.size; clear hb hA17 hC17; have hst := Stg.mk 5)
            | (have := (hst : Stg 5); go_at_call 59; clear this hst; refine (ta_3 _).mono ?_; rintro e w19 ⟨a19, c19, rfl, hb⟩; have hC19 := belT hA18 hb hA18.size; have hA19 := belT hC19 (below_new w19 (.cells #[.int .i64 0, .int .u8 0, .slice a19 0 c19] 98)) hC19.size; clear hb hA18 hC18; have hst := Stg.mk 6)
            | (have := (hst : Stg 6); go_at_call 59; clear this hst; refine (ta_4 _).mono ?_; rintro e w20 ⟨a20, c20, rfl, hb⟩; have hC20 := belT hA19 hb hA19.size; have hA20 := belT hC20 (below_new w20 (.cells #[.int .i64 2, .int .u8 2, .slice a20 0 c20] 98)) hC20.size; have hA20b := belT hA20 (below_new (w20.alloc (.cells #[.int .i64 2, .int .u8 2, .slice a20 0 c20] 98)) (.cells #[.string ⟨#[97]⟩, .slice none 0 0, .string ⟨#[97]⟩, .slice none 0 0] 64)) hA20.size; have HT20 := Lib.hid (box_new w20 (.cells #[.int .i64 2, .int .u8 2, .slice a20 0 c20] 98)); have hdb := dbl_at (w20.alloc (.cells #[.int .i64 2, .int .u8 2, .slice a20 0 c20] 98)); rw [World.size_alloc] at hdb; have Hdb := Lib.hid hdb; clear hb hA19 hC19 hdb; have hst := Stg.mk 7)
            | (have := (hst : Stg 7); go_at_call 39; clear this hst; refine (ck_R _ _ Hdb.out).mono ?_; rintro e w21 ⟨rfl, hb⟩; have hC21 := belT hA20b hb hA20b.size; have hA21 := belT hC21 (below_new w21 (.cells #[.int .u8 0, .int .u8 1, .int .u8 65, .int .u8 0, .int .u8 2, .int .u8 2, .int .u8 1, .int .u8 0, .int .u8 1, .int .u8 2] 5)) hC21.size; have hE21 := belT (below_new (w20.alloc (.cells #[.int .i64 2, .int .u8 2, .slice a20 0 c20] 98)) (.cells #[.string ⟨#[97]⟩, .slice none 0 0, .string ⟨#[97]⟩, .slice none 0 0] 64)) hb (by simp); have hF21 := belT hE21 (below_new w21 (.cells #[.int .u8 0, .int .u8 1, .int .u8 65, .int .u8 0, .int .u8 2, .int .u8 2, .int .u8 1, .int .u8 0, .int .u8 1, .int .u8 2] 5)) hE21.size; clear hb Hdb hA20b hA20 hC20; have hst := Stg.mk 8)
            | (have := (hst : Stg 8); go_at_call 45; clear this hst; refine (rd_R _ _ (rd_at w21)).mono ?_; rintro e w22 ⟨n22, a22, m22, c22, x22, y22, rfl, hb⟩; have hC22 := belT hA21 hb hA21.size; have hA22 := belT hC22 (below_new w22 (.cells #[.string n22, .slice a22 m22 c22] 64)) hC22.size; have hE22 := belT hF21 hb hF21.size; have hF22 := belT hE22 (below_new w22 (.cells #[.string n22, .slice a22 m22 c22] 64)) hE22.size; clear hb hA21 hC21 hE21 hF21; have hst := Stg.mk 9)
            | (have := (hst : Stg 9); go_at_call 58; clear this hst; refine (alive26 _).mono ?_; rintro e w23 ⟨rfl, hb⟩; have hC23 := belT hA22 hb hA22.size; have hE23 := belT hF22 hb hF22.size; have hF23 := belT hE23 (below_new w23 (.cells #[.int .i64 0, .int .i64 1] 3)) hE23.size; have hQ23 := belT HqA.out hC23 HqA.out.size; obtain ⟨q23, k23, -⟩ := own_box hQ23 (by simp) (box_new w2 (.cells #[.int .u8 1, .slice a2 2 c2] 25)); have k230 := k23 0; have k231 := k23 1; have hlt23 := size_of_box q23; have HA23 := Lib.hid (RInts.same (.of_below hQ23) HA.out); clear hb k23 q23 hA22 hC22 hE22 hF22 hE23; have hst := Stg.mk 10)
            | (have := (hst : Stg 10); go_at_call 41; clear this hst; refine (in_T _ _ [0, 1] _ (HA23.out.same (.of_below (below_new w23 (.cells #[.int .i64 0, .int .i64 1] 3)))) (i01_at w23)).mono ?_; rintro e w24 ⟨rfl, hb⟩; have hA23 := belT hC23 (below_new w23 (.cells #[.int .i64 0, .int .i64 1] 3)) hC23.size; have hC24 := belT hA23 hb hA23.size; have hE24 := belT hF23 hb hF23.size; obtain ⟨q24, k24, -⟩ := own_box hE24 (by simp) HT20.out; have k240 := k24 0; have k241 := k24 1; have k242 := k24 2; have hlt24 := size_of_box q24; clear hb k24 q24 hA23; have hst := Stg.mk 11))
          go_ret
          exact ⟨rfl, belT hbA hC24 hzA⟩
end Go.Proofs.Ytkjgddcjhikdgaa

namespace Go.Proofs.Ytkjgddcjhikdgaa
open Go Go.RowKit Go.ChangeShapes Go.WideShapes Go.ChangeAt

set_option maxRecDepth 100000 in
theorem recordNames_lifted (os : Os) (started : os.Started) (H : Type) (enc : TypeId × Value → H) :
    ReturnsInHanded {} Try.checked os 16 .any (Rows.recordNamesSpec.pre6 enc Try.prog Try.f16 Rows.recordNamesRow.domain false) (Rows.recordNamesSpec.post enc Try.prog Try.f16 false true false false) := by
  refine returnsInHanded_of_change_sized (C := Try.checked) Try.own started (by kernel_rfl) Try.func16
    (ChangeSpec.witness6 (enc := enc) (C := Try.checked) false ⟨#[], #[], []⟩ 8 (by kernel_rfl) (by kernel_rfl) (by kernel_rfl) (by kernel_rfl)) ?_
  intro W base args ds gs before hval0 hW hcnd hsz0 _
  have hval : ∀ (j : Nat) t v, Try.f16.params[j]? = some t → args[j]? = some v → Value.okWide Try.prog W .any base t v := hval0
  have hsz : (DataW.weightsEach Try.prog (Try.f16.params.toList ++ Rows.recordNamesSpec.plain.varTypes Try.prog) (ds ++ gs)).all (· ≤ reachBytes) = true := hsz0
  have hW' := hW
  obtain ⟨p, q, hA0, hV, rfl, hfz, hnd⟩ := hW
  have hA : DataW.TrodAll enc Try.prog W 0 (fun _ => true) true Try.f16.params.toList args.toList ds p := hA0
  rw [Try.params16] at hA hval hsz
  obtain ⟨hargs, rfl, rfl⟩ := trodAll_nil hA
  obtain rfl : args = #[] := by cases args; simp_all
  obtain ⟨rfl, rfl⟩ := trodVars_none hV
  clear hA0 hval0
  refine (law_rnames  W ).mono fun e W' ⟨he, bel⟩ => ?_
  subst he
  exact ⟨_, rfl, _, _, _, [], _, [], hW', trodAll_mk1 (shut_bool Try.underlying4 _), trodAll_mk0, rfl, bel.frame _, fun h => by cases h⟩

theorem recordNames_named : Try.prog.funcNamed Rows.recordNamesRow.func = some 16 := by kernel_rfl
theorem recordNames_facts : joinedFacts Try.prog 16 Try.f16 Rows.recordNamesSpec Rows.recordNamesRow = true := by kernel_rfl
theorem recordNames_inst : Try.f16.isInstance Try.prog Rows.recordNamesRow.origin Rows.recordNamesRow.targs := of_decide_eq_true (by kernel_rfl)
theorem recordNames_wrap : Try.f16.isWrapper Try.prog Rows.recordNamesRow.wrapper Rows.recordNamesRow.mainSum := by
  unfold Func.isWrapper
  rw [if_neg (of_decide_eq_false (by kernel_rfl))]
  exact ⟨rfl, rfl⟩
theorem recordNames_holds : Rows.RecordNamesSaid :=
  OpenClaim.holds_of_wide 16 Try.f16 rfl rfl rfl rfl rfl rfl rfl ⟨rfl, rfl, rfl, rfl, rfl⟩ rfl rfl rfl rfl rfl recordNames_named Try.func16 recordNames_facts
    recordNames_inst recordNames_wrap
    (fun os started H enc _ => recordNames_lifted os started H enc)
#print axioms recordNames_holds
end Go.Proofs.Ytkjgddcjhikdgaa
