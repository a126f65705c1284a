/- Texts of one claim, put together: RatN, Nam27, Three, Alive26, AliveW, OrdP. -/
import Derived.Test.YtkjgddcjhikdgaaKGCan
import Derived.Test.YtkjgddcjhikdgaaKGRat
import Derived.Test.YtkjgddcjhikdgaaKGRep
import Derived.Test.YtkjgddcjhikdgaaKGPut
import Derived.Test.YtkjgddcjhikdgaaKGTal
import Derived.Test.YtkjgddcjhikdgaaKGRead
import Derived.Test.YtkjgddcjhikdgaaKGProf
import Derived.Handy

/- The calls of the law CanvassNames, each at its own arguments. -/
namespace Go.Proofs.Ytkjgddcjhikdgaa
open Go Go.RowKit Go.Shelf Limb

theorem i1_at (n : Int) (hn : (Lit.int .i64 n).wf = true) (W : World) : RInts Any (W.alloc (.cells #[.int .i64 n] 3)) (.slice (some ⟨W.heap.size, 0, none⟩) 1 1) [n] :=
  RSl.lay (cells := [.int .i64 n]) (xs := ([n] : List Int)) trivial (box_new W _) (Dec.single rfl ⟨rfl, hn⟩) (by simp)
end Go.Proofs.Ytkjgddcjhikdgaa

/- The chapter's example of records: three returns its batches. -/
namespace Go.Proofs.Ytkjgddcjhikdgaa
open Go Go.RowKit Go.Shelf

theorem belT {B : Nat} {w W w' : World} (h : Below B w W) (hb : Below W.heap.size W w') (hB : B ≤ W.heap.size) : Below B w w' := h.trans (hb.mono hB)
def bA : Blt := ⟨1, [0, 1]⟩
def bB : Blt := ⟨1, [1]⟩
def tl1 : List Btc := [⟨⟨#[120]⟩, [bA]⟩]
def tl2 : List Btc := [⟨⟨#[120]⟩, [bA]⟩, ⟨⟨#[121]⟩, [bB]⟩]
def tl3 : List Btc := [⟨⟨#[120]⟩, [bA, bA]⟩, ⟨⟨#[121]⟩, [bB]⟩]
theorem put_T1 : putI [] 2 1 ⟨#[120]⟩ bA = 0 := by kernel_rfl
theorem put_T2 : putL [] 2 1 ⟨#[120]⟩ bA = tl1 := by kernel_rfl
theorem put_T3 : putI tl1 2 1 ⟨#[121]⟩ bB = 0 := by kernel_rfl
theorem put_T4 : putL tl1 2 1 ⟨#[121]⟩ bB = tl2 := by kernel_rfl
theorem put_T5 : putI tl2 2 1 ⟨#[120]⟩ bA = 0 := by kernel_rfl
theorem put_T6 : putL tl2 2 1 ⟨#[120]⟩ bA = tl3 := by kernel_rfl
theorem put_at {l r : List Btc} {nm : ByteArray} {b : Blt} (v u : Value) (w : World) (h : RBtcs Any w v l) (hu : VBlt Any w u b) (hnm : nm.size ≤ 140737488355328) (hsm : Small l) (hmk : b.marks.length ≤ 1000000) (hI : putI l 2 1 nm b = 0) (hL : putL l 2 1 nm b = r) :
    Calls Try.prog 22 #[v, .int .i64 2, .int .u8 1, .string nm, u] w fun e w' => ∃ a c, e = .returned (.tuple #[.slice a r.length c, .int .i64 0]) ∧ RBtcs Any w' (.slice a r.length c) r ∧ Below w.heap.size w w' := by
  refine (put Any v u l 2 1 nm b w h hu hnm hsm hmk).mono ?_
  rintro e w' ⟨x, he, ho, hb⟩
  rw [hI] at he
  rw [hL] at ho
  have hr := ho.toR
  obtain ⟨a, c, rfl, -, -⟩ := RSl.shape hr
  exact ⟨a, c, he, RSl.mono (fun _ _ _ h => dBtc.mono (fun _ _ => trivial) h) (fun _ _ => trivial) hr, hb⟩
theorem pu_1 (u : Value) (w : World) (hu : VBlt Any w u bA) : Calls Try.prog 22 #[.slice none 0 0, .int .i64 2, .int .u8 1, .string ⟨#[120]⟩, u] w fun e w' => ∃ a c, e = .returned (.tuple #[.slice a 1 c, .int .i64 0]) ∧ RBtcs Any w' (.slice a 1 c) tl1 ∧ Below w.heap.size w w' :=
  put_at (r := tl1) _ u w RSl.nil hu (by decide) ⟨by decide, by decide⟩ (by decide) put_T1 put_T2
theorem pu_2 (v u : Value) (w : World) (h : RBtcs Any w v tl1) (hu : VBlt Any w u bB) : Calls Try.prog 22 #[v, .int .i64 2, .int .u8 1, .string ⟨#[121]⟩, u] w fun e w' => ∃ a c, e = .returned (.tuple #[.slice a 2 c, .int .i64 0]) ∧ RBtcs Any w' (.slice a 2 c) tl2 ∧ Below w.heap.size w w' :=
  put_at (r := tl2) v u w h hu (by decide) ⟨by decide, by decide⟩ (by decide) put_T3 put_T4
theorem pu_3 (v u : Value) (w : World) (h : RBtcs Any w v tl2) (hu : VBlt Any w u bA) : Calls Try.prog 22 #[v, .int .i64 2, .int .u8 1, .string ⟨#[120]⟩, u] w fun e w' => ∃ a c, e = .returned (.tuple #[.slice a 2 c, .int .i64 0]) ∧ RBtcs Any w' (.slice a 2 c) tl3 ∧ Below w.heap.size w w' :=
  put_at (r := tl3) v u w h hu (by decide) ⟨by decide, by decide⟩ (by decide) put_T5 put_T6
theorem ranks26 (a : Option Addr) (n c : Nat) (w : World) : Calls Try.prog 68 #[.slice a n c] w fun e w' => e = .returned (.agg #[.int .u8 1, .slice a n c]) ∧ Below w.heap.size w w' := by
  go_enter Try.func68, Try.ntmps68
  go_wp2
  exact bodyPost_ret (v := .agg #[.int .u8 1, .slice a n c]) (by simp [results, Try.results68, go_sem]) rfl ⟨rfl, below_new _ _⟩
theorem i01_at (W : World) : RInts Any (W.alloc (.cells #[.int .i64 0, .int .i64 1] 3)) (.slice (some ⟨W.heap.size, 0, none⟩) 2 2) [0, 1] :=
  RSl.lay (cells := [.int .i64 0] ++ [.int .i64 1]) (xs := ([0] : List Int) ++ ([1] : List Int)) trivial (box_new W _) (Dec.append (Dec.single rfl ⟨rfl, by decide⟩) (Dec.single rfl ⟨rfl, by decide⟩)) (by decide)
theorem bA_at (W w1 : World) (hb : Below (W.alloc (.cells #[.int .i64 0, .int .i64 1] 3)).heap.size (W.alloc (.cells #[.int .i64 0, .int .i64 1] 3)) w1) : VBlt Any w1 (.agg #[.int .u8 1, .slice (some ⟨W.heap.size, 0, none⟩) 2 2]) bA :=
  ⟨_, _, rfl, ⟨_, rfl, by decide, by decide, RInts.same (.of_below hb) (i01_at W)⟩⟩
theorem bB_at (W w1 : World) (hb : Below (W.alloc (.cells #[.int .i64 1] 3)).heap.size (W.alloc (.cells #[.int .i64 1] 3)) w1) : VBlt Any w1 (.agg #[.int .u8 1, .slice (some ⟨W.heap.size, 0, none⟩) 1 1]) bB :=
  ⟨_, _, rfl, ⟨_, rfl, by decide, by decide, RInts.same (.of_below hb) (i1_at 1 (by decide) W)⟩⟩
set_option maxHeartbeats 4000000 in
theorem three26 (w : World) : Calls Try.prog 67 #[] w fun e w' => ∃ a c, e = .returned (.tuple #[.slice a 2 c, .bool true]) ∧ RBtcs Any w' (.slice a 2 c) tl3 ∧ Below w.heap.size w w' := by
  have st0 := Lib.hid True.intro
  go_enter Try.func67, Try.ntmps67
  go_wp2_with (first
    | (have := st5; go_at_call 22; refine (pu_3 _ _ _ HL2.out HB.out).mono ?_; rintro e w6 ⟨a6, c6, rfl, hl, hb⟩; have hp6 := belT hp5 hb hp5.size; have HL3 := Lib.hid hl; clear HB HL2 hl hb)
    | (have := st4; go_at_call 68; clear st4; refine (ranks26 _ _ _ _).mono ?_; rintro e w5 ⟨rfl, hb⟩; have HB := Lib.hid (bA_at _ _ hb); have hp5 := belT (B := w.heap.size) (w := w) (by go_grown) hb (by go_size); have hz5 := hp5.size; replace HL2 := Lib.hid (HL2.out.same (.of_below (belT (by go_grown) hb (by go_size)))); clear hb; have st5 := Lib.hid True.intro; clear this)
    | (have := st3; go_at_call 22; clear st3; refine (pu_2 _ _ _ HL1.out HB.out).mono ?_; rintro e w4 ⟨a4, c4, rfl, hl, hb⟩; have hp4 := belT hp3 hb hp3.size; have hz4 := hp4.size; have HL2 := Lib.hid hl; clear HB HL1 hl hb; have st4 := Lib.hid True.intro; clear this)
    | (have := st2; go_at_call 68; clear st2; refine (ranks26 _ _ _ _).mono ?_; rintro e w3 ⟨rfl, hb⟩; have HB := Lib.hid (bB_at _ _ hb); have hp3 := belT (B := w.heap.size) (w := w) (by go_grown) hb (by go_size); have hz3 := hp3.size; replace HL1 := Lib.hid (HL1.out.same (.of_below (belT (by go_grown) hb (by go_size)))); clear hb; have st3 := Lib.hid True.intro; clear this)
    | (have := st1; go_at_call 22; clear st1; refine (pu_1 _ _ HB.out).mono ?_; rintro e w2 ⟨a2, c2, rfl, hl, hb⟩; have hp2 := belT hp1 hb hp1.size; have hz2 := hp2.size; have HL1 := Lib.hid hl; clear HB hl hb; have st2 := Lib.hid True.intro; clear this)
    | (have := st0; go_at_call 68; clear st0; refine (ranks26 _ _ _ _).mono ?_; rintro e w1 ⟨rfl, hb⟩; have HB := Lib.hid (bA_at _ _ hb); have hp1 := belT (B := w.heap.size) (w := w) (by go_grown) hb (by go_size); have hz1 := hp1.size; clear hb; have st1 := Lib.hid True.intro; clear this))
  go_ret2
  exact ⟨a6, c6, rfl, HL3.out, hp6⟩
end Go.Proofs.Ytkjgddcjhikdgaa

/- The examples of the chapter on records: alive returns true. -/
namespace Go.Proofs.Ytkjgddcjhikdgaa
open Go Go.RowKit Go.Shelf

def rT : List Row := [⟨[0, 1], 2⟩, ⟨[1], 1⟩]
def yT : Btc := ⟨⟨#[121]⟩, [bB]⟩
def byT : List Int := [0, 1, 121, 0, 2, 2, 1, 0, 1, 1]
theorem tal_T1 : tallyI tl3 2 1 = 0 := by kernel_rfl
theorem tal_T2 : tallyV tl3 2 1 = ⟨2, 1, rT⟩ := by kernel_rfl
theorem byt_T1 : recCheck [yT] 2 1 = 0 := by kernel_rfl
theorem byt_T2 : bytesV yT 2 1 = byT := by kernel_rfl
theorem siz_T : sizesL tl3 = [2, 1] := by kernel_rfl
theorem ta_T (v : Value) (w : World) (h : RBtcs Any w v tl3) : Calls Try.prog 59 #[v, .int .i64 2, .int .u8 1] w fun e w' => ∃ a c, e = .returned (.tuple #[.agg #[.int .i64 2, .int .u8 1, .slice a 2 c], .int .i64 0]) ∧ RRows Any w' (.slice a 2 c) rT ∧ Below w.heap.size w w' := by
  refine (recTally Any v tl3 2 1 w h).mono ?_
  rintro e w' ⟨x, he, ho, hb⟩
  rw [tal_T1] at he
  rw [tal_T2] at ho
  obtain ⟨a, c, rfl, -, -, hr⟩ := ho
  exact ⟨a, c, he, RRows.mono (fun _ _ => trivial) hr, hb⟩
theorem by_T (sl : Value) (w : World) (h : dBtc Any w [.string ⟨#[121]⟩, sl] yT) : Calls Try.prog 69 #[.agg #[.string ⟨#[121]⟩, sl], .int .i64 2, .int .u8 1] w fun e w' => ∃ a c, e = .returned (.tuple #[.slice a 10 c, .int .i64 0]) ∧ RBytes Any w' (.slice a 10 c) byT ∧ Below w.heap.size w w' := by
  refine (recBytes Any sl yT 2 1 w h).mono ?_
  rintro e w' ⟨x, he, ho, hb⟩
  rw [byt_T1] at he
  rw [byt_T2] at ho
  obtain ⟨a, c, rfl⟩ := Own.shape ho
  exact ⟨a, c, he, RSl.mono (fun _ _ _ h => h) (fun _ _ => trivial) (Own.rsl ho (by decide)), hb⟩
theorem si_T (v : Value) (w : World) (h : RBtcs Any w v tl3) : Calls Try.prog 42 #[v] w fun e w' => ∃ a c, e = .returned (.slice a 2 c) ∧ RInts Any w' (.slice a 2 c) [2, 1] ∧ Below w.heap.size w w' := by
  refine (recordSizes Any v tl3 w h ⟨by decide, by decide⟩).mono ?_
  rintro e w' ⟨x, he, ho, hb⟩
  rw [siz_T] at ho
  obtain ⟨a, c, rfl⟩ := Own.shape ho
  exact ⟨a, c, he, RSl.mono (fun _ _ _ h => h) (fun _ _ => trivial) (Own.rsl ho (by decide)), hb⟩
theorem in_T (u v : Value) (xs : List Int) (w : World) (hx : RInts Any w u xs) (hy : RInts Any w v xs) : Calls Try.prog 41 #[u, v] w fun e w' => e = .returned (.bool true) ∧ Below w.heap.size w w' := by
  have := ints08 Any Any u v xs xs w hx hy
  rwa [eqL_refl (fun x => by simp [eqInt])] at this
theorem i21_at (W : World) : RInts Any (W.alloc (.cells #[.int .i64 2, .int .i64 1] 3)) (.slice (some ⟨W.heap.size, 0, none⟩) 2 2) [2, 1] :=
  RSl.lay (cells := [.int .i64 2] ++ [.int .i64 1]) (xs := ([2] : List Int) ++ ([1] : List Int)) trivial (box_new W _) (Dec.append (Dec.single rfl ⟨rfl, by decide⟩) (Dec.single rfl ⟨rfl, by decide⟩)) (by decide)
/-- What is read of the batches. -/
theorem tl3_at {W : World} {a : Option Addr} {c : Nat} (h : RBtcs Any W (.slice a 2 c) tl3) : ∃ b off d, a = some ⟨b, off, none⟩ ∧ b < W.heap.size ∧ W.cell? ⟨b, off + 2, none⟩ = some (.string ⟨#[121]⟩) ∧ W.cell? ⟨b, off + 3, none⟩ = some d ∧ dBtc Any W [.string ⟨#[121]⟩, d] yT := by
  obtain ⟨b, off, c1, d1, rfl, -, hb, h1, h2, hx⟩ := RSl.at2 h 1 (by decide)
  obtain ⟨a4, cap4, rfl, rfl, -, -, -⟩ := hx.open
  exact ⟨b, off, _, rfl, hb, h1, h2, hx⟩
/-- What is read of the rows. -/
theorem rT_at {W : World} {a : Option Addr} {c : Nat} (h : RRows Any W (.slice a 2 c) rT) : ∃ b off a1 c1 a2 c2, a = some ⟨b, off, none⟩ ∧ b < W.heap.size ∧ W.cell? ⟨b, off, none⟩ = some (.slice a1 2 c1) ∧ W.cell? ⟨b, off + 1, none⟩ = some (.int .i64 2) ∧ W.cell? ⟨b, off + 2, none⟩ = some (.slice a2 1 c2) ∧ W.cell? ⟨b, off + 3, none⟩ = some (.int .i64 1) ∧
    RInts Any W (.slice a1 2 c1) [0, 1] ∧ RInts Any W (.slice a2 1 c2) [1] := by
  obtain ⟨b, off, x1, y1, rfl, -, hb, h1, h2, hx⟩ := RSl.at2 h 0 (by decide)
  obtain ⟨b', off', x2, y2, e, -, -, h3, h4, hy⟩ := RSl.at2 h 1 (by decide)
  cases e
  obtain ⟨a1, c1, rfl, rfl, -, -, hi1⟩ := hx.open
  obtain ⟨a2, c2, rfl, rfl, -, -, hi2⟩ := hy.open
  exact ⟨b, off, a1, c1, a2, c2, rfl, hb, h1, h2, h3, h4, hi1, hi2⟩
end Go.Proofs.Ytkjgddcjhikdgaa

/- The walk of alive of the chapter on records. -/
namespace Go.Proofs.Ytkjgddcjhikdgaa
open Go Go.RowKit Go.Shelf

theorem str_T : strOfNums byT = ⟨#[0, 1, 121, 0, 2, 2, 1, 0, 1, 1]⟩ := by kernel_rfl
set_option maxHeartbeats 4000000 in
set_option maxRecDepth 100000 in
theorem alive26 (w : World) : Calls Try.prog 58 #[] w fun e w' => e = .returned (.bool true) ∧ Below w.heap.size w w' := by
  have hK : ∀ (w2 W : World) (b off : Nat) (x1 y1 x2 y2 sl : Value), w2.cell? ⟨b, off, none⟩ = some x1 → w2.cell? ⟨b, off + 1, none⟩ = some y1 → w2.cell? ⟨b, off + 2, none⟩ = some x2 → w2.cell? ⟨b, off + 3, none⟩ = some y2 → b < w2.heap.size →
      Below (w2.heap.size + 1) (w2.alloc (.cells #[.int .i64 2, .int .u8 1, sl] 98)) W →
      W.cell? ⟨w2.heap.size, 2, none⟩ = some sl ∧ W.cell? ⟨b, off, none⟩ = some x1 ∧ W.cell? ⟨b, off + 1, none⟩ = some y1 ∧ W.cell? ⟨b, off + 2, none⟩ = some x2 ∧ W.cell? ⟨b, off + 3, none⟩ = some y2 ∧ w2.heap.size < W.heap.size ∧ b < W.heap.size := fun w2 W b off x1 y1 x2 y2 sl k1 k2 k3 k4 hlt hb => by
    have hc : ∀ i, W.cell? ⟨b, i, none⟩ = w2.cell? ⟨b, i, none⟩ := fun i => (hb.cell (by show b < w2.heap.size + 1; omega)).trans ((below_new w2 _).cell (by exact hlt))
    have g1 : W.heap[w2.heap.size]? = some (.cells #[.int .i64 2, .int .u8 1, sl] 98 (0, 0)) := (hb.block _ (by omega)).trans (box_new w2 _)
    have := hb.size
    refine ⟨(own_box (Below.refl _ W) (size_of_box g1) g1).2.1 2, by rw [hc]; exact k1, by rw [hc]; exact k2, by rw [hc]; exact k3, by rw [hc]; exact k4, by simp at this; omega, by simp at this; omega⟩
  have HK := Lib.hid hK
  clear hK
  go_enter Try.func58, Try.ntmps58
  have st0 := Lib.hid True.intro
  go_wp2_with (first
    | (have := st0; go_at_call 67; clear st0; refine (three26 _).mono ?_; rintro e w1 ⟨a1, c1, rfl, hl, hp1⟩; have hz1 := hp1.size; have HL := Lib.hid hl; clear hl; have st1 := Lib.hid True.intro; clear this)
    | (have := st1; go_at_call 59; clear st1; refine (ta_T _ _ HL.out).mono ?_; rintro e w2 ⟨a2, c2, rfl, hr, hb⟩; have hp2 := belT hp1 hb hz1; have hz2 := hp2.size; replace HL := Lib.hid (HL.out.same (.of_below hb)); obtain ⟨bl, offl, dl, rfl, hbl, hl2, hl3, hdl⟩ := tl3_at HL.out; obtain ⟨br, offr, a3, c3, a4, c4, rfl, hbr, hr0, hr1, hr2, hr3, hi0, hi1⟩ := rT_at hr; have hlb : w2.heap.size + 1 = (w2.alloc (.cells #[.int .i64 2, .int .u8 1, .slice (some ⟨br, offr, none⟩) 2 c2] 98)).heap.size := (by simp); have HKK := Lib.hid (fun W => HK.out w2 W br offr _ _ _ _ (.slice (some ⟨br, offr, none⟩) 2 c2) hr0 hr1 hr2 hr3 hbr); have Hi0 := Lib.hid (hi0.same (.of_below (below_new w2 (.cells #[.int .i64 2, .int .u8 1, .slice (some ⟨br, offr, none⟩) 2 c2] 98)))); have Hi1 := Lib.hid (hi1.same (.of_below (below_new w2 (.cells #[.int .i64 2, .int .u8 1, .slice (some ⟨br, offr, none⟩) 2 c2] 98)))); have Hdl := Lib.hid (dBtc.stable Any _ _ _ _ (.of_below (below_new w2 (.cells #[.int .i64 2, .int .u8 1, .slice (some ⟨br, offr, none⟩) 2 c2] 98))) hdl); have Hlb := Lib.hid hlb; clear hb hr hi0 hi1 hr0 hr1 hr2 hr3 hdl hlb; have st2 := Lib.hid True.intro; clear this)
    | (have := st2; go_at_call 69; clear st2; refine (by_T _ _ Hdl.out).mono ?_; rintro e w3 ⟨a5, c5, rfl, hr, hb⟩; have hp3 := belT (B := w.heap.size) (w := w) (by go_grown) hb (by go_size); have hz3 := hp3.size; have hq3 := hb; obtain ⟨k0, k1, k2, k3, k4, lt1, lt2⟩ := HKK.out _ (by rw [Hlb.out]; exact hq3); have Hby := Lib.hid hr; have HL3 := Lib.hid (HL.out.same (.of_below (belT (by go_grown) hb (by go_size)))); have hzq3 := hq3.size; clear hb hr hl2 hl3 HL; have st3 := Lib.hid True.intro; clear this)
    | (have := st3; go_at_call 42; clear st3; refine (si_T _ _ HL3.out).mono ?_; rintro e w4 ⟨a6, c6, rfl, hr, hb⟩; have hp4 := belT hp3 hb hz3; have hz4 := hp4.size; have hq4 := belT hq3 hb hzq3; have hzq4 := hq4.size; have Hs4 := Lib.hid hr; have Hby4 := Lib.hid (Hby.out.same (.of_below hb)); clear hb hr HL3 Hby k0 k1 k2 k3 k4 lt1 lt2; have st4 := Lib.hid True.intro; clear this)
    | (have := st4; go_at_call 41; clear st4; refine (in_T _ _ _ _ (Hs4.out.same (.of_below (below_new _ _))) (i21_at _)).mono ?_; rintro e w5 ⟨rfl, hb⟩; have hp5 := belT (B := w.heap.size) (w := w) (by go_grown) hb (by go_size); have hz5 := hp5.size; have hq5 := belT (belT hq4 (below_new w4 _) hzq4) hb (by have := hzq4; simp at this ⊢; omega); have hzq5 := hq5.size; obtain ⟨k0, k1, k2, k3, k4, lt1, lt2⟩ := HKK.out _ (by rw [Hlb.out]; exact hq5); have Hby5 := Lib.hid (Hby4.out.same (.of_below (belT (by go_grown) hb (by go_size)))); clear hb Hs4 Hby4 hq4; have st5 := Lib.hid True.intro; clear this)
    | (have := st5; go_at_call 41; clear st5; refine (in_T _ _ _ _ (Hi0.out.same (.of_below (belT hq5 (below_new w5 _) hzq5))) (i01_at _)).mono ?_; rintro e w6 ⟨rfl, hb⟩; have hp6 := belT (B := w.heap.size) (w := w) (by go_grown) hb (by go_size); have hz6 := hp6.size; have hq6 := belT (belT hq5 (below_new w5 _) hzq5) hb (by have := hzq5; simp at this ⊢; omega); have hzq6 := hq6.size; clear k0 k1 k2 k3 k4 lt1 lt2; obtain ⟨k0, k1, k2, k3, k4, lt1, lt2⟩ := HKK.out _ (by rw [Hlb.out]; exact hq6); have Hby6 := Lib.hid (Hby5.out.same (.of_below (belT (by go_grown) hb (by go_size)))); clear hb Hby5 hq5; have st6 := Lib.hid True.intro; clear this)
    | (have := st6; go_at_call 41; clear st6; refine (in_T _ _ _ _ (Hi1.out.same (.of_below (belT hq6 (below_new w6 _) hzq6))) (i1_at 1 (by decide) _)).mono ?_; rintro e w7 ⟨rfl, hb⟩; have hp7 := belT (B := w.heap.size) (w := w) (by go_grown) hb (by go_size); have hz7 := hp7.size; have hq7 := belT (belT hq6 (below_new w6 _) hzq6) hb (by have := hzq6; simp at this ⊢; omega); clear k0 k1 k2 k3 k4 lt1 lt2; obtain ⟨k0, k1, k2, k3, k4, lt1, lt2⟩ := HKK.out _ (by rw [Hlb.out]; exact hq7); have hcv := RBytes.str (Hby6.out.same (.of_below (belT (by go_grown) hb (by go_size)))); rw [str_T] at hcv; clear hb Hby6 hq6 hq7; have st7 := Lib.hid True.intro; clear this))
  exact bodyPost_ret (v := .bool true) (by simp [results, Try.results58, go_sem]) rfl ⟨rfl, hp7⟩
end Go.Proofs.Ytkjgddcjhikdgaa

/- Rows of the call's own that may lead to all old memory; the tally's value laid open. -/
namespace Go.Proofs.Ytkjgddcjhikdgaa
open Go Go.RowKit Go.Shelf

/-- All blocks there are, but for the row's own. -/
def Rz (w : World) (v : Value) : Nat → Prop := fun b => b < w.heap.size ∧ some b ≠ v.ownBlock
def OwnZ {α : Type} (base : Nat) (e : TypeId) (n : Nat) (dec : (Nat → Prop) → World → List Value → α → Prop) (w : World) (v : Value) (xs : List α) : Prop := Own base e n (dec (Rz w v)) w v xs
theorem OwnZ.below {α : Type} {base : Nat} {e : TypeId} {n : Nat} {dec : (Nat → Prop) → World → List Value → α → Prop} (F : Fam dec) {w w' : World} {v : Value} {xs : List α} (h : OwnZ base e n dec w v xs) (hb : Below w.heap.size w w') : OwnZ base e n dec w' v xs :=
  Own.dmono (fun _ _ hd => F.mono (fun _ hb' => ⟨Nat.lt_of_lt_of_le hb'.1 hb.size, hb'.2⟩) hd) (Own.below (F.stable _) h hb)
theorem OwnZ.rsl {α : Type} {base : Nat} {e : TypeId} {n : Nat} {dec : (Nat → Prop) → World → List Value → α → Prop} (F : Fam dec) {w : World} {v : Value} {xs : List α} (h : OwnZ base e n dec w v xs) (hl : xs.length ≤ 140737488355328) : RSl Any n (dec Any) w v xs :=
  RSl.mono (fun _ _ _ h => h) (fun _ _ => trivial) (Own.rsl (Own.dmono (fun _ _ hd => F.mono (fun _ _ => trivial) hd) h) hl)
section
variable {P : Program} (w : World)
theorem wpList_appZ {α : Type} {z : Value} {size bytes : Nat} {ops : Array Oper} {rest : List Oper} {o : Oper} {a : Act} {Q : Exit → Act → World → Prop} {e t : TypeId} (hinfo : (P.info? e).map (fun i => (i.zero, i.size, i.bytes)) = some (some z, size, bytes))
    (hgd : o.guard = none) {s x : Operand} (ho : o.op = .call { callee := .builtin .append, args := #[s, x], argTypes := #[t, t] }) (ht : P.underlying t = some (.slice e))
    (hzs : z.cells.size = size ∧ 0 < size ∧ 0 < bytes) {dec : (Nat → Prop) → World → List Value → α → Prop} (F : Fam dec) (base : Nat)
    {v : Value} {xs : List α} (hown : OwnZ base e size dec w v xs) (hs : a.eval s = v) {g : Nat} {cs : List Value} {y : α} (hg : w.heap[g]? = some (.cells cs.toArray e (0, 0))) (hl : cs.length = size) (hy : dec (Rz w v) w cs y)
    (hx : a.eval x = .slice (some ⟨g, 0, none⟩) 1 1)
    (h63 : (xs.length + 1) * bytes ≤ 140737488355328) (hbase : base ≤ w.heap.size)
    (h : ∀ a' n' c' w', w.grownBy w' v.ownBlock → OwnZ base e size dec w' (.slice a' n' c') (xs ++ [y]) →
      wpList P ops Q rest (a.put o.dst (.slice a' n' c')) w') : wpList P ops Q (o :: rest) a w := by
  refine wpList_app w hinfo hgd ho ht hzs (F.one (Rz w v)) (F.stable (Rz w v)) base hown hs (RSl.built (lo := 0) (Nat.zero_le _) hg hl hy) hx (by simpa using h63) hbase ?_
  intro a' c' w' hgr hat hO
  refine h a' _ c' w' hgr ?_
  have hO' := hO (.of_grown hgr (fun b hb => hb.2))
  refine Own.dmono (fun cs x hd => F.mono (fun b hb => ⟨Nat.lt_of_lt_of_le hb.1 hgr.size, ?_⟩) hd) hO'
  rcases hat with e | e
  · rw [e]; exact hb.2
  · rw [e]; have := hb.1; intro h; injection h with h; omega
end
/-- What Tally gives, laid open. -/
def TalOpen (p : Prof) (n : Nat) (I : Int) (w : World) (e : Ending) (w' : World) : Prop :=
  ∃ a cc, e = .returned (.tuple #[.agg #[.int .i64 p.cands, .int .u8 p.kind, .slice a n cc], .int .i64 I]) ∧ VProf Any w' (.agg #[.int .i64 p.cands, .int .u8 p.kind, .slice a n cc]) p ∧ Below w.heap.size w w'
theorem TalOpen.of {l : List Btc} {c kind : Int} {p : Prof} {n : Nat} {I : Int} {w w' : World} {e : Ending} (hI : tallyI l c kind = I) (hV : tallyV l c kind = p) (hn : p.rows.length = n) (h : TallyGives l c kind w e w') : TalOpen p n I w e w' := by
  obtain ⟨v, he, hv, hb⟩ := h
  subst hI hV hn
  have hv2 := VProf.mono (T := Any) (fun _ _ => trivial) hv
  obtain ⟨a, cc, rfl, -, -, -⟩ := hv
  exact ⟨a, cc, he, hv2, hb⟩
theorem profSameT (S T : Nat → Prop) (u v : Value) (p : Prof) (w : World) (hx : VProf S w u p) (hy : VProf T w v p) :
    Calls Try.prog 60 #[u, v] w fun e w' => e = .returned (.bool true) ∧ Below w.heap.size w w' := by
  have := profSame S T u v p p w hx hy
  rwa [eqProf_iff.2 rfl] at this
end Go.Proofs.Ytkjgddcjhikdgaa
