/- Texts of one claim, put together: R11A, Who, Whos, R11B, ShelfS, ChoA, Rows2, R11C, R11D, Pref, OneU, OneV, R09A, R09B, R11E, R11F, R11H, R11G, R11K. -/
import Derived.Test.YtogngcbflhdadaaGreatAGOne
import Derived.Test.YtogngcbflhdadaaGreatAGPut
import Derived.Test.YtogngcbflhdadaaGreatAGRat
import Derived.Test.YtogngcbflhdadaaGreatShelf
import Derived.Test.YtogngcbflhdadaaGreatAGFoot
import Derived.Test.YtogngcbflhdadaaGreatAGAdd
import Derived.Test.YtogngcbflhdadaaGreatAGNat
import Derived.Sort.OwnSortedInts
import Derived.Maps.RangeWalk
import Derived.Deep.RegionWith
import Derived.Deep.OwnRows
import Derived.StillTailTactics
import Derived.Deep.CutRange

/- Contracts of the reference's In, First, All, Without, Alike, Tied, place, Turned, Lot. -/
namespace Go.Proofs.YtogngcbflhdadaaGreat
open Go Go.RowKit Go.Shelf

/-- Is a number in a list? -/
def hasI (l : List Int) (n : Int) : Bool := l.contains n
theorem hasI_mem {l : List Int} {n : Int} : hasI l n = true ↔ n ∈ l := List.contains_iff_mem
theorem r11In (S : Nat → Prop) (v : Value) (l : List Int) (n : Int) (w : World) (h : RInts S w v l) :
    Calls Tryz.prog 32 #[v, .int .i64 n] w fun e w' => e = .returned (.bool (hasI l n)) ∧ w = w' := by
  obtain ⟨a, cap, rfl, h1, h2⟩ := RSl.shape h
  go_enter Tryz.func32, Tryz.ntmps32
  go_wp2
  go_loop [5] (fun i => ∃ k : Nat, k ≤ l.length ∧ i = .int .i64 k ∧ Hid (hasI (l.take k) n = false)) (fun i => l.length - (intOf i).toNat)
  case atStart => exact ⟨0, Nat.zero_le _, rfl, Lib.hid rfl⟩
  case round =>
    obtain ⟨k, hk, rfl, hg⟩ := hrel
    by_cases hlt : k < l.length
    · obtain ⟨b, off, c, rfl, hS, hbw, hc, hx⟩ := RSl.at1 h k hlt
      obtain ⟨rfl, -⟩ := hx.open
      by_cases he : l[k] = n
      · have he' : (l[k] == n) = true := by simpa using he
        have He := Lib.hid he; clear he
        go_wp2
        go_ret
        exact ⟨ret_bool (by symm; rw [hasI_mem, ← He.out]; exact List.getElem_mem hlt), rfl⟩
      · have he' : (l[k] == n) = false := by simpa using he
        have He := Lib.hid he; clear he
        go_wp2
        go_round
        case rel => exact ⟨k + 1, by omega, by go_num, Lib.hid (by rw [List.take_succ_eq_append_getElem hlt, hasI, List.contains_eq_any_beq, List.any_append, ← List.contains_eq_any_beq, show (l.take k).contains n = false from hg.out]; simpa using fun e : n = l[k] => He.out e.symm)⟩
        case measure => simp [intOf]; omega
    · go_wp2
      go_ret
      rw [List.take_of_length_le (by omega)] at hg
      exact ⟨ret_bool hg.out.symm, rfl⟩
theorem find_none_snoc {l : List Int} {p : Int → Bool} {k : Nat} (hk : k < l.length) (h1 : (l.take k).find? p = none) (h2 : p l[k] = false) : (l.take (k + 1)).find? p = none := by
  rw [List.take_succ_eq_append_getElem hk, List.find?_append, h1]; simp [h2]
theorem find_some_at {l : List Int} {p : Int → Bool} {k : Nat} (hk : k < l.length) (h1 : (l.take k).find? p = none) (h2 : p l[k] = true) : l.find? p = some l[k] := by
  conv => lhs; rw [← List.take_append_drop k l]
  rw [List.find?_append, h1, List.drop_eq_getElem_cons hk, List.find?_cons, h2]; rfl
set_option maxHeartbeats 400000 in
theorem r11First (S T : Nat → Prop) (u v : Value) (lot among : List Int) (w : World) (h : RInts S w u lot) (hv : RInts T w v among) :
    Calls Tryz.prog 38 #[u, v] w fun e w' => e = .returned (.int .i64 (firstL lot among)) ∧ w = w' := by
  obtain ⟨a, cap, rfl, h1, h2⟩ := RSl.shape h
  have hI := fun n => r11In T v among n w hv
  have HI := Lib.hid hI
  clear hI hv
  go_enter Tryz.func38, Tryz.ntmps38
  go_wp2
  go_loop [5] (fun i => ∃ k : Nat, k ≤ lot.length ∧ i = .int .i64 k ∧ Hid ((lot.take k).find? (fun x => hasI among x) = none)) (fun i => lot.length - (intOf i).toNat)
  case atStart => exact ⟨0, Nat.zero_le _, rfl, Lib.hid rfl⟩
  case round =>
    obtain ⟨k, hk, rfl, hg⟩ := hrel
    by_cases hlt : k < lot.length
    · obtain ⟨b, off, c, rfl, hS, hbw, hc, hx⟩ := RSl.at1 h k hlt
      obtain ⟨rfl, -⟩ := hx.open
      have hin := HI.out lot[k]
      cases he : hasI among lot[k]
      · rw [he] at hin
        have He := Lib.hid he; have Hin := Lib.hid hin; clear he hin
        go_wp2_with (go_at_call 32; refine Hin.out.mono ?_; rintro e w1 ⟨rfl, rfl⟩)
        go_round
        case rel => exact ⟨k + 1, by omega, by go_num, Lib.hid (find_none_snoc hlt hg.out He.out)⟩
        case measure => simp [intOf]; omega
      · rw [he] at hin
        have He := Lib.hid he; have Hin := Lib.hid hin; clear he hin
        go_wp2_with (go_at_call 32; refine Hin.out.mono ?_; rintro e w1 ⟨rfl, rfl⟩)
        go_ret
        exact ⟨ret_int (by rw [firstL, find_some_at (p := fun x => among.contains x) hlt hg.out He.out]; rfl), rfl⟩
    · go_wp2
      go_ret
      rw [List.take_of_length_le (by omega)] at hg
      exact ⟨ret_int (by rw [firstL, show lot.find? (fun x => among.contains x) = none from hg.out]; rfl), rfl⟩
/-- An own row of numbers as a result. -/
def GivesI (xs : List Int) (w : World) (e : Ending) (w' : World) : Prop := ∃ v, e = .returned v ∧ Own w.heap.size 3 1 (dInt .i64) w' v xs ∧ Below w.heap.size w w'
set_option maxHeartbeats 400000 in
theorem r11All (n : Nat) (w : World) (hn : n ≤ 1000000) : Calls Tryz.prog 121 #[.int .i64 n] w (GivesI (rngI n) w) := by
  go_enter Tryz.func121, Tryz.ntmps121
  go_wp2
  go_loopw [3, 4] (fun s i wr => ∃ k : Nat, k ≤ n ∧ i = .int .i64 k ∧ Hid (Own w.heap.size 3 1 (dInt .i64) wr s (rngI k)) ∧ Below w.heap.size w wr) (fun _ i _ => n - (intOf i).toNat)
  case atStart => exact ⟨0, Nat.zero_le _, rfl, Lib.hid (Own.nil _ _ _ _ _), Below.refl _ _⟩
  case round =>
    obtain ⟨k, hk, rfl, hO, hb⟩ := hrel
    obtain ⟨ao, co, rfl⟩ := Own.shape hO.out
    have hz := hb.size
    by_cases hlt : k < n
    · have hsl : (rngI k).length ≤ 1000000 := by rw [rngI_length]; omega
      have hwf : (Lit.int .i64 (k : Int)).wf = true := WalkArith.wf_i64 (by omega)
      have Hsl := Lib.hid hsl; have Hwf := Lib.hid hwf
      clear hsl hwf
      go_wp2_with (at_builtin; go_must (refine wpList_appI wr Tryz.infoInt rfl rfl Tryz.underlying25 w.heap.size hO.out rfl rfl Hwf.out Hsl.out hz ?_); intro a1 n1 c1 w1 ho1 hb1; have Ho1 := Lib.hid ho1; have Hb1 := Lib.hid (hb1 _ _ (Nat.le_refl _) hb); clear ho1 hb1)
      exact ⟨⟨k + 1, by omega, by go_num, Lib.hid (by rw [rngI_succ]; exact Ho1.out), Hb1.out⟩, by simp [intOf]; omega⟩
    · obtain rfl : k = n := by omega
      go_wp2
      go_ret
      exact ⟨_, rfl, hO.out, hb⟩
end Go.Proofs.YtogngcbflhdadaaGreat

/- Contracts of Whole and Wholes, of the program and of the reference. -/
namespace Go.Proofs.YtogngcbflhdadaaGreat
open Go Go.RowKit Go.Shelf Limb

theorem lim1 : lim 1 = [1] := lim_small (n := 1) (by omega) (by omega)
theorem whole_nat (n : Nat) : whole (n : Int) = ⟨false, lim n, [1]⟩ := by
  rw [whole, decide_eq_false (by omega), Int.natAbs_natCast]
/-- A whole number as a result, in memory of its own. -/
def GivesW (n : Nat) (w : World) (e : Ending) (w' : World) : Prop := ∃ a c a' c', e = .returned (.agg #[.bool false, .slice a (lim n).length c, .slice a' 1 c']) ∧ RU (From w.heap.size) w' (.slice a (lim n).length c) (lim n) ∧ RU (From w.heap.size) w' (.slice a' 1 c') [1] ∧ Below w.heap.size w w'
theorem natOfF (n : Nat) (w : World) (hn : n < 9223372036854775808) :
    Calls Tryz.prog 153 #[.int .u64 n] w fun e w' => ∃ a c, e = .returned (.slice a (lim n).length c) ∧ RU (From w.heap.size) w' (.slice a (lim n).length c) (lim n) ∧ Below w.heap.size w w' := by
  have hv : (val [(n : Int) % 4294967296, (n : Int) / 4294967296]).toNat = n := by simp [val]; omega
  have hT : Calls Tryz.prog 178 #[.slice (some ⟨w.heap.size, 0, none⟩) 2 2] (w.alloc (.cells #[.int .u32 ((n : Int) % 4294967296), .int .u32 ((n : Int) / 4294967296)] 128)) (TrimGives (From w.heap.size) [(n : Int) % 4294967296, (n : Int) / 4294967296] (w.alloc (.cells #[.int .u32 ((n : Int) % 4294967296), .int .u32 ((n : Int) / 4294967296)] 128))) := by
    have hA : Arr .u32 (w.alloc (.cells #[.int .u32 ((n : Int) % 4294967296), .int .u32 ((n : Int) / 4294967296)] 128)) w.heap.size 128 [(n : Int) % 4294967296, (n : Int) / 4294967296] := box_new w _
    exact natTrim _ _ _ _ (hA.all (S := From w.heap.size) (Nat.le_refl _) (fun x hx => wf_u32.2 (by simp at hx; omega)) (by simp) rfl (Nat.le_refl _))
  have hT2 := hT.mono (fun e w' (hh : TrimGives _ _ _ e w') => (show ∃ a c, e = .returned (.slice a (lim n).length c) ∧ RU (From w.heap.size) w' (.slice a (lim n).length c) (lim n) ∧ w' = w.alloc (.cells #[.int .u32 ((n : Int) % 4294967296), .int .u32 ((n : Int) / 4294967296)] 128) from by
    obtain ⟨a, h1, h2, h3⟩ := hh
    rw [hv] at h1 h2
    subst h3
    exact ⟨a, _, h1, h2, rfl⟩))
  have hq : (n : Int) / 4294967296 % 4294967296 = (n : Int) / 4294967296 := by omega
  have HT := Lib.hid hT2
  clear hT hT2 hv
  go_enter Tryz.func153, Tryz.ntmps153
  go_wp2_with (go_at_call 178; refine HT.out.mono ?_; rintro e w1 ⟨a1, c1, rfl, hN, rfl⟩; have HN := Lib.hid hN; clear hN)
  go_ret
  exact ⟨a1, c1, rfl, HN.out, below_new _ _⟩
theorem ratOneF (w : World) : Calls Tryz.prog 106 #[] w fun e w' => ∃ g, e = .returned (.slice (some ⟨g, 0, none⟩) 1 1) ∧ RU (From w.heap.size) w' (.slice (some ⟨g, 0, none⟩) 1 1) [1] ∧ Below w.heap.size w w' := by
  have h1 : RU (From w.heap.size) (w.alloc (.cells #[.int .u32 1] 128)) (.slice (some ⟨w.heap.size, 0, none⟩) 1 1) [1] :=
    RSl.built (lo := w.heap.size) (cs := [.int .u32 1]) (w' := w.alloc (.cells #[.int .u32 1] 128)) (Nat.le_refl _) (box_new w _) rfl ⟨rfl, wf_u32.2 (by omega)⟩
  have hb0 := below_new w (.cells #[.int .u32 1] 128)
  have H1 := Lib.hid h1; clear h1
  go_enter Tryz.func106, Tryz.ntmps106
  go_wp2
  go_ret
  exact ⟨_, rfl, H1.out, hb0⟩
set_option maxHeartbeats 1000000 in
theorem ratWhole (n : Nat) (w : World) (hn : n < 9223372036854775808) : Calls Tryz.prog 116 #[.int .i64 n] w (GivesW n w) := by
  obtain ⟨Z, hZ⟩ : ∃ Z, Z = Obj.cells #[.bool false, .slice none 0 0, .slice none 0 0] 54 (0, 0) := ⟨_, rfl⟩
  have hb0 := below_new w Z
  have hgA : (w.alloc Z).heap[w.heap.size]? = some (.cells #[.bool false, .slice none 0 0, .slice none 0 0] 54 (0, 0)) := by rw [hZ]; exact box_new w _
  have hS := fun W => ratSize n W hn
  have hO := fun W => natOfF n W hn
  have h1 := fun W => ratOneF W
  have hnn : ¬ (n : Int) < 0 := by omega
  obtain ⟨xs, hxs⟩ : ∃ xs, lim n = xs := ⟨_, rfl⟩
  have hfin : ∀ (w3 : World) a c g, Below (w.alloc Z).heap.size (w.alloc Z) w3 → RU (From (w.heap.size + 1)) w3 (.slice a xs.length c) xs → RU (From (w.heap.size + 1)) w3 (.slice (some ⟨g, 0, none⟩) 1 1) [1] → ∀ w', Same (fun b => b ≠ w.heap.size) w3 w' → Below w.heap.size w3 w' → GivesW n w (.returned (.agg #[.bool false, .slice a xs.length c, .slice (some ⟨g, 0, none⟩) 1 1])) w' := fun w3 a c g hW k1 k2 w' hs hb => by
    have h1 : ∀ b, From (w.heap.size + 1) b → b ≠ w.heap.size := fun b hb e => by simp only [From] at hb; omega
    have h2 : ∀ b, From (w.heap.size + 1) b → From w.heap.size b := fun b hb => Nat.le_trans (Nat.le_succ _) hb
    rw [GivesW, hxs]
    exact ⟨a, c, _, _, rfl, RU.mono h2 (k1.same (hs.mono h1)), RU.mono h2 (k2.same (hs.mono h1)), (hb0.trans (hW.mono (by simp))).trans hb⟩
  rw [hxs] at hO
  have hcell : ∀ w3, Below (w.alloc Z).heap.size (w.alloc Z) w3 → (∀ i, w3.cell? ⟨w.heap.size, i, none⟩ = (#[.bool false, .slice none 0 0, .slice none 0 0] : Array Value)[i]?) ∧ (∀ i, w3.frozen? ⟨w.heap.size, i, none⟩ = false) := fun w3 hW => by
    obtain ⟨-, g2, g3⟩ := own_box hW (by simp) hgA
    exact ⟨g2, g3⟩
  have HS := Lib.hid hS; have HO := Lib.hid hO; have H1 := Lib.hid h1; have HF := Lib.hid hfin; have HC := Lib.hid hcell
  clear hS hO h1 hfin hcell hb0 hgA hxs
  subst hZ
  go_enter Tryz.func116, Tryz.ntmps116
  go_wp2_with (first
    | (go_at_call 154; refine (HS.out _).mono ?_; rintro e w0 ⟨rfl, rfl⟩)
    | (go_at_call 153; refine (HO.out _).mono ?_; rintro e w1 ⟨a3, c3, rfl, hN3, hbb1⟩; have hz1 := hbb1.size; rw [World.size_alloc] at hN3 hz1; have HN3 := Lib.hid hN3; clear hN3)
    | (go_at_call 106; refine (H1.out _).mono ?_; rintro e w2 ⟨g4, rfl, hN4, hb2⟩; have hbb2 := hbb1.trans (hb2.mono (by simpa using hz1)); have HN3' := Lib.hid (HN3.out.below hb2); have HN4 := Lib.hid (RU.mono (T := From (w.heap.size + 1)) (fun b hb => Nat.le_trans hz1 hb) hN4); obtain ⟨hc3, hf3⟩ := HC.out _ hbb2; clear hN4))
  refine bodyPost_ret (v := .agg #[.bool false, .slice a3 xs.length c3, .slice (some ⟨g4, 0, none⟩) 1 1]) (by simp [results, Tryz.results116, go_sem, hc3]) rfl (HF.out _ _ _ _ hbb2 HN3'.out HN4.out _ ?_ ?_)
  · exact (((Same.refl _ _).setCell (by simp) _).setCell (by simp) _).setCell (by simp) _
  · exact ((((Below.refl _ _).setCell (p := ⟨w.heap.size, 0, none⟩) (Nat.le_refl _) _).setCell (p := ⟨w.heap.size, 1, none⟩) (Nat.le_refl _) _).setCell (p := ⟨w.heap.size, 2, none⟩) (Nat.le_refl _) _)
set_option maxHeartbeats 1000000 in
theorem r4Whole (n : Nat) (w : World) (hn : n < 9223372036854775808) : Calls Tryz.prog 29 #[.int .i64 n] w (GivesW n w) := by
  obtain ⟨Z, hZ⟩ : ∃ Z, Z = Obj.cells #[.bool false, .slice none 0 0, .slice none 0 0] 54 (0, 0) := ⟨_, rfl⟩
  have hb0 := below_new w Z
  have hgA : (w.alloc Z).heap[w.heap.size]? = some (.cells #[.bool false, .slice none 0 0, .slice none 0 0] 54 (0, 0)) := by rw [hZ]; exact box_new w _
  have hO := fun W => r4OfF n 1 W hn (by omega) (by omega)
  have hg1 : Nat.gcd n 1 = 1 := Nat.gcd_one_right n
  simp only [hg1, Nat.div_one, lim1] at hO
  obtain ⟨xs, hxs⟩ : ∃ xs, lim n = xs := ⟨_, rfl⟩
  have hfin : ∀ (w3 : World) a c a' c', Below (w.alloc Z).heap.size (w.alloc Z) w3 → RU (From (w.heap.size + 1)) w3 (.slice a xs.length c) xs → RU (From (w.heap.size + 1)) w3 (.slice a' 1 c') [1] → ∀ w', Same (fun b => b ≠ w.heap.size) w3 w' → Below w.heap.size w3 w' → GivesW n w (.returned (.agg #[.bool false, .slice a xs.length c, .slice a' 1 c'])) w' := fun w3 a c a' c' hW k1 k2 w' hs hb => by
    have h1 : ∀ b, From (w.heap.size + 1) b → b ≠ w.heap.size := fun b hb e => by simp only [From] at hb; omega
    have h2 : ∀ b, From (w.heap.size + 1) b → From w.heap.size b := fun b hb => Nat.le_trans (Nat.le_succ _) hb
    rw [GivesW, hxs]
    exact ⟨a, c, _, _, rfl, RU.mono h2 (k1.same (hs.mono h1)), RU.mono h2 (k2.same (hs.mono h1)), (hb0.trans (hW.mono (by simp))).trans hb⟩
  rw [hxs] at hO
  have hcell : ∀ w3, Below (w.alloc Z).heap.size (w.alloc Z) w3 → (∀ i, w3.cell? ⟨w.heap.size, i, none⟩ = (#[.bool false, .slice none 0 0, .slice none 0 0] : Array Value)[i]?) ∧ (∀ i, w3.frozen? ⟨w.heap.size, i, none⟩ = false) := fun w3 hW => by
    obtain ⟨-, g2, g3⟩ := own_box hW (by simp) hgA
    exact ⟨g2, g3⟩
  have HO := Lib.hid hO; have HF := Lib.hid hfin; have HC := Lib.hid hcell
  clear hO hfin hcell hb0 hgA hxs hg1
  subst hZ
  go_enter Tryz.func29, Tryz.ntmps29
  go_wp2_with (go_at_call 60; refine (HO.out _).mono ?_; rintro e w1 ⟨a3, c3, a4, c4, rfl, hN3, hN4, hbb1⟩; have hz1 := hbb1.size; rw [World.size_alloc] at hN3 hN4 hz1; have HN3 := Lib.hid hN3; have HN4 := Lib.hid hN4; obtain ⟨hc3, hf3⟩ := HC.out _ hbb1; have hlt1 : w.heap.size < w1.heap.size := hz1; clear hN3 hN4)
  refine bodyPost_ret (v := .agg #[.bool false, .slice a3 xs.length c3, .slice a4 1 c4]) (by simp [results, Tryz.results29, go_sem, hc3, hlt1]) rfl (HF.out w1 _ _ _ _ hbb1 HN3.out HN4.out _ ?_ ?_)
  · exact Same.trans ((((Same.refl _ _).setCell (by simp) _).setCell (by simp) _).setCell (by simp) _) (.of_below (below_new _ _)) (by simp only [size_setCell']; exact Nat.le_refl _)
  · exact ((((Below.refl _ _).setCell (p := ⟨w.heap.size, 0, none⟩) (Nat.le_refl _) _).setCell (p := ⟨w.heap.size, 1, none⟩) (Nat.le_refl _) _).setCell (p := ⟨w.heap.size, 2, none⟩) (Nat.le_refl _) _).alloc (by simp only [size_setCell']; omega) _
end Go.Proofs.YtogngcbflhdadaaGreat

/- Contracts of Wholes, of the program and of the reference. Printed by genwho.py. -/
namespace Go.Proofs.YtogngcbflhdadaaGreat
open Go Go.RowKit Go.Shelf Limb

/-- An own row of ratios as a result. -/
def GivesR (xs : List Rt) (w : World) (e : Ending) (w' : World) : Prop := ∃ v, e = .returned v ∧ OwnX w.heap.size 54 3 dRt w' v xs ∧ Below w.heap.size w w'
set_option maxHeartbeats 1000000 in
theorem choWholes (S : Nat → Prop) (v : Value) (l : List Int) (w : World) (h : RInts S w v l) (hl : l.length ≤ 1000000) (hn : ∀ x ∈ l, 0 ≤ x ∧ x < 9223372036854775808) :
    Calls Tryz.prog 115 #[v] w (GivesR (l.map whole) w) := by
  obtain ⟨a, cap, rfl, h1, h2⟩ := RSl.shape h
  have hH := fun W (hW : Below w.heap.size w W) => h.same (.of_below hW)
  have HH := Lib.hid hH; have Hn := Lib.hid hn
  clear hH h hn
  go_enter Tryz.func115, Tryz.ntmps115
  go_wp2
  go_loopw [2, 4, 7] (fun s _ i wr => ∃ k : Nat, k ≤ l.length ∧ i = .int .i64 k ∧ Hid (OwnX w.heap.size 54 3 dRt wr s ((l.take k).map whole)) ∧ Below w.heap.size w wr) (fun _ _ i _ => l.length - (intOf i).toNat)
  case atStart => exact ⟨0, Nat.zero_le _, rfl, Lib.hid (OwnX.nil _ _ _ _ _), Below.refl _ _⟩
  case round =>
    obtain ⟨k, hk, rfl, hO, hb⟩ := hrel
    obtain ⟨ao, co, hso⟩ := hO.out.shape
    obtain ⟨m, hm⟩ : ∃ m, ((l.take k).map whole).length = m := ⟨_, rfl⟩
    rw [hm] at hso
    subst hso
    have hz := hb.size
    by_cases hlt : k < l.length
    · obtain ⟨b, off, c, rfl, hS, hbw, hc, hx⟩ := RSl.at1 (HH.out wr hb) k hlt
      obtain ⟨rfl, hwf⟩ := hx.open
      obtain ⟨hx0, hx1⟩ := Hn.out _ (List.getElem_mem hlt)
      have hst : (l.take (k + 1)).map whole = (l.take k).map whole ++ [whole l[k]] := by rw [List.take_succ_eq_append_getElem hlt, List.map_append]; rfl
      obtain ⟨n, hnx⟩ : ∃ n : Nat, l[k] = (n : Int) := ⟨l[k].toNat, by omega⟩
      rw [hnx] at hc hst hx1
      have hcall := ratWhole n wr (by omega)
      rw [whole_nat] at hst
      obtain ⟨xs, hxs⟩ : ∃ xs, lim n = xs := ⟨_, rfl⟩
      rw [hxs] at hst
      have hcall2 : Calls Tryz.prog 116 #[.int .i64 n] wr fun e w' => ∃ a c a' c', e = .returned (.agg #[.bool false, .slice a xs.length c, .slice a' 1 c']) ∧ RU (From wr.heap.size) w' (.slice a xs.length c) xs ∧ RU (From wr.heap.size) w' (.slice a' 1 c') [1] ∧ Below wr.heap.size wr w' := by rw [← hxs]; exact hcall
      obtain ⟨L, hL⟩ : ∃ L, xs.length = L := ⟨_, rfl⟩
      rw [hL] at hcall2
      have hml : ((l.take k).map whole).length ≤ 1000000 := by rw [List.length_map, List.length_take]; omega
      have hD : ∀ w1 a1 c1 a2 c2, Below wr.heap.size wr w1 → RU (From wr.heap.size) w1 (.slice a1 L c1) xs → RU (From wr.heap.size) w1 (.slice a2 1 c2) [1] → dRt (Rg w.heap.size w1 (.slice ao m co)) w1 [.bool false, .slice a1 L c1, .slice a2 1 c2] ⟨false, xs, [1]⟩ := fun w1 a1 c1 a2 c2 hb1 k1 k2 => by
        have hS : ∀ b, Cut (From wr.heap.size) w1.heap.size b → Rg w.heap.size w1 (.slice ao m co) b := fun b hb' => ⟨Nat.le_trans hz hb'.1, hb'.2, fun e => by have := (Own.lt hO.out b e.symm).2; have := hb'.1; simp only [From] at this; omega⟩
        exact ⟨_, _, rfl, RU.mono hS k1.cut, RU.mono hS k2.cut⟩
      have Hst := Lib.hid hst; have HC := Lib.hid hcall2; have Hml := Lib.hid hml; have HD := Lib.hid hD
      clear hst hcall hcall2 hml hD hxs hnx hL hm
      go_wp2_with (first
        | (go_at_call 116; refine HC.out.mono ?_; rintro e w1 ⟨a1, c1, a2, c2, rfl, k1, k2, hb1⟩; have hb2 := hb.trans (hb1.mono hz); have hz2 := hb2.size; have HD1 := Lib.hid (HD.out _ _ _ _ _ hb1 k1 k2); have HO1 := Lib.hid (OwnX.below famRt hO.out hb1); clear k1 k2)
        | (at_builtin; go_must (refine wpList_appE _ Tryz.infoRt rfl rfl Tryz.underlying46 ⟨rfl, by omega, by omega, by omega⟩ famRt w.heap.size HO1.out rfl (cs := [.bool false, .slice a1 L c1, .slice a2 1 c2]) rfl HD1.out rfl Hml.out hz2 ?_); intro a3 n3 c3 w3 ho3 hb3; have Ho3 := Lib.hid ho3; have Hb3 := Lib.hid (hb3 _ _ (Nat.le_refl _) hb2); clear ho3 hb3))
      exact ⟨⟨k + 1, by omega, by go_num, Lib.hid (by rw [Hst.out]; exact Ho3.out), Hb3.out⟩, by simp [intOf]; omega⟩
    · obtain rfl : k = l.length := by omega
      have hO2 := hO.out
      rw [List.take_length] at hO2
      have HO2 := Lib.hid hO2
      clear hO2 hO hm
      go_wp2
      go_ret
      exact ⟨_, rfl, HO2.out, hb⟩
set_option maxHeartbeats 1000000 in
theorem r11Wholes (S : Nat → Prop) (v : Value) (l : List Int) (w : World) (h : RInts S w v l) (hl : l.length ≤ 1000000) (hn : ∀ x ∈ l, 0 ≤ x ∧ x < 9223372036854775808) :
    Calls Tryz.prog 44 #[v] w (GivesR (l.map whole) w) := by
  obtain ⟨a, cap, rfl, h1, h2⟩ := RSl.shape h
  have hH := fun W (hW : Below w.heap.size w W) => h.same (.of_below hW)
  have HH := Lib.hid hH; have Hn := Lib.hid hn
  clear hH h hn
  go_enter Tryz.func44, Tryz.ntmps44
  go_wp2
  go_loopw [3, 4] (fun s i wr => ∃ k : Nat, k ≤ l.length ∧ i = .int .i64 k ∧ Hid (OwnX w.heap.size 54 3 dRt wr s ((l.take k).map whole)) ∧ Below w.heap.size w wr) (fun _ i _ => l.length - (intOf i).toNat)
  case atStart => exact ⟨0, Nat.zero_le _, rfl, Lib.hid (OwnX.nil _ _ _ _ _), Below.refl _ _⟩
  case round =>
    obtain ⟨k, hk, rfl, hO, hb⟩ := hrel
    obtain ⟨ao, co, hso⟩ := hO.out.shape
    obtain ⟨m, hm⟩ : ∃ m, ((l.take k).map whole).length = m := ⟨_, rfl⟩
    rw [hm] at hso
    subst hso
    have hz := hb.size
    by_cases hlt : k < l.length
    · obtain ⟨b, off, c, rfl, hS, hbw, hc, hx⟩ := RSl.at1 (HH.out wr hb) k hlt
      obtain ⟨rfl, hwf⟩ := hx.open
      obtain ⟨hx0, hx1⟩ := Hn.out _ (List.getElem_mem hlt)
      have hst : (l.take (k + 1)).map whole = (l.take k).map whole ++ [whole l[k]] := by rw [List.take_succ_eq_append_getElem hlt, List.map_append]; rfl
      obtain ⟨n, hnx⟩ : ∃ n : Nat, l[k] = (n : Int) := ⟨l[k].toNat, by omega⟩
      rw [hnx] at hc hst hx1
      have hcall := r4Whole n wr (by omega)
      rw [whole_nat] at hst
      obtain ⟨xs, hxs⟩ : ∃ xs, lim n = xs := ⟨_, rfl⟩
      rw [hxs] at hst
      have hcall2 : Calls Tryz.prog 29 #[.int .i64 n] wr fun e w' => ∃ a c a' c', e = .returned (.agg #[.bool false, .slice a xs.length c, .slice a' 1 c']) ∧ RU (From wr.heap.size) w' (.slice a xs.length c) xs ∧ RU (From wr.heap.size) w' (.slice a' 1 c') [1] ∧ Below wr.heap.size wr w' := by rw [← hxs]; exact hcall
      obtain ⟨L, hL⟩ : ∃ L, xs.length = L := ⟨_, rfl⟩
      rw [hL] at hcall2
      have hml : ((l.take k).map whole).length ≤ 1000000 := by rw [List.length_map, List.length_take]; omega
      have hD : ∀ w1 a1 c1 a2 c2, Below wr.heap.size wr w1 → RU (From wr.heap.size) w1 (.slice a1 L c1) xs → RU (From wr.heap.size) w1 (.slice a2 1 c2) [1] → dRt (Rg w.heap.size w1 (.slice ao m co)) w1 [.bool false, .slice a1 L c1, .slice a2 1 c2] ⟨false, xs, [1]⟩ := fun w1 a1 c1 a2 c2 hb1 k1 k2 => by
        have hS : ∀ b, Cut (From wr.heap.size) w1.heap.size b → Rg w.heap.size w1 (.slice ao m co) b := fun b hb' => ⟨Nat.le_trans hz hb'.1, hb'.2, fun e => by have := (Own.lt hO.out b e.symm).2; have := hb'.1; simp only [From] at this; omega⟩
        exact ⟨_, _, rfl, RU.mono hS k1.cut, RU.mono hS k2.cut⟩
      have Hst := Lib.hid hst; have HC := Lib.hid hcall2; have Hml := Lib.hid hml; have HD := Lib.hid hD
      clear hst hcall hcall2 hml hD hxs hnx hL hm
      go_wp2_with (first
        | (go_at_call 29; refine HC.out.mono ?_; rintro e w1 ⟨a1, c1, a2, c2, rfl, k1, k2, hb1⟩; have hb2 := hb.trans (hb1.mono hz); have hz2 := hb2.size; have HD1 := Lib.hid (HD.out _ _ _ _ _ hb1 k1 k2); have HO1 := Lib.hid (OwnX.below famRt hO.out hb1); clear k1 k2)
        | (at_builtin; go_must (refine wpList_appE _ Tryz.infoRt rfl rfl Tryz.underlying46 ⟨rfl, by omega, by omega, by omega⟩ famRt w.heap.size HO1.out rfl (cs := [.bool false, .slice a1 L c1, .slice a2 1 c2]) rfl HD1.out rfl Hml.out hz2 ?_); intro a3 n3 c3 w3 ho3 hb3; have Ho3 := Lib.hid ho3; have Hb3 := Lib.hid (hb3 _ _ (Nat.le_refl _) hb2); clear ho3 hb3))
      exact ⟨⟨k + 1, by omega, by go_num, Lib.hid (by rw [Hst.out]; exact Ho3.out), Hb3.out⟩, by simp [intOf]; omega⟩
    · obtain rfl : k = l.length := by omega
      have hO2 := hO.out
      rw [List.take_length] at hO2
      have HO2 := Lib.hid hO2
      clear hO2 hO hm
      go_wp2
      go_ret
      exact ⟨_, rfl, HO2.out, hb⟩
end Go.Proofs.YtogngcbflhdadaaGreat

/- Contracts of the reference's Without, Alike, Tied, Turned, Lot. -/
namespace Go.Proofs.YtogngcbflhdadaaGreat
open Go Go.RowKit Go.Shelf

theorem RInts.wf {S : Nat → Prop} {w : World} {v : Value} {xs : List Int} (h : RInts S w v xs) : ∀ x ∈ xs, (Lit.int .i64 x).wf = true := fun x hx => by
  obtain ⟨c, hc⟩ := RSl.mem1 h x hx
  exact hc.open.2
set_option maxHeartbeats 400000 in
theorem r11Without (S : Nat → Prop) (v : Value) (l : List Int) (n : Int) (w : World) (h : RInts S w v l) (hl : l.length ≤ 1000000) :
    Calls Tryz.prog 124 #[v, .int .i64 n] w (GivesI (l.filter fun y => !(y == n)) w) := by
  obtain ⟨a, cap, rfl, h1, h2⟩ := RSl.shape h
  have hH := fun W (hW : Below w.heap.size w W) => h.same (.of_below hW)
  have HH := Lib.hid hH
  clear hH h
  go_enter Tryz.func124, Tryz.ntmps124
  go_wp2
  go_loopw [5, 6] (fun s i wr => ∃ k : Nat, k ≤ l.length ∧ i = .int .i64 k ∧ Hid (Own w.heap.size 3 1 (dInt .i64) wr s ((l.take k).filter fun y => !(y == n))) ∧ Below w.heap.size w wr) (fun _ i _ => l.length - (intOf i).toNat)
  case atStart => exact ⟨0, Nat.zero_le _, rfl, Lib.hid (Own.nil _ _ _ _ _), Below.refl _ _⟩
  case round =>
    obtain ⟨k, hk, rfl, hO, hb⟩ := hrel
    obtain ⟨ao, co, rfl⟩ := Own.shape hO.out
    have hz := hb.size
    by_cases hlt : k < l.length
    · obtain ⟨b, off, c, rfl, hS, hbw, hc, hx⟩ := RSl.at1 (HH.out wr hb) k hlt
      obtain ⟨rfl, hwf⟩ := hx.open
      have hsl : ((l.take k).filter fun y => !(y == n)).length ≤ 1000000 := Nat.le_trans (List.length_filter_le _ _) (by rw [List.length_take]; omega)
      have hst : (l.take (k + 1)).filter (fun y => !(y == n)) = (l.take k).filter (fun y => !(y == n)) ++ if l[k] = n then [] else [l[k]] := by
        rw [List.take_succ_eq_append_getElem hlt, List.filter_append]
        congr 1
        by_cases e : l[k] = n
        · simp [e]
        · simp [e]
      have Hsl := Lib.hid hsl; have Hwf := Lib.hid hwf
      clear hsl hwf
      by_cases he : l[k] = n
      · have he' : (l[k] != n) = false := by simpa using he
        rw [if_pos he, List.append_nil] at hst
        have Hst := Lib.hid hst
        clear hst he
        go_wp2
        exact ⟨⟨k + 1, by omega, by go_num, Lib.hid (by rw [Hst.out]; exact hO.out), hb⟩, by simp [intOf]; omega⟩
      · have he' : (l[k] != n) = true := by simpa using he
        rw [if_neg he] at hst
        have Hst := Lib.hid hst
        clear hst he
        go_wp2_with (at_builtin; go_must (refine wpList_appI wr Tryz.infoInt rfl rfl Tryz.underlying25 w.heap.size hO.out rfl rfl Hwf.out Hsl.out hz ?_); intro a1 n1 c1 w1 ho1 hb1; have Ho1 := Lib.hid ho1; have Hb1 := Lib.hid (hb1 _ _ (Nat.le_refl _) hb); clear ho1 hb1)
        exact ⟨⟨k + 1, by omega, by go_num, Lib.hid (by rw [Hst.out]; exact Ho1.out), Hb1.out⟩, by simp [intOf]; omega⟩
    · obtain rfl : k = l.length := by omega
      have hO2 := hO.out
      rw [List.take_length] at hO2
      have HO2 := Lib.hid hO2
      clear hO2
      go_wp2
      go_ret
      rw [List.take_length]
      exact ⟨_, rfl, HO2.out, hb⟩
/-- The reference's winners: those of some that have the most, in ascending order. -/
def alikeB (among has : List Int) (x : Int) : Bool := among.contains x && among.all fun y => decide (gI has y ≤ gI has x)
def alikeL (among has : List Int) : List Int := (rngI has.length).filter (alikeB among has)
theorem alike_best {has : List Int} {p : Int → Bool} : alikeL ((rngI has.length).filter p) has = bestL (gI has) ((rngI has.length).filter p) := by
  simp only [alikeL, bestL, List.filter_filter]
  apply List.filter_congr
  intro x hx
  rw [Bool.eq_iff_iff]
  simp [alikeB, List.mem_filter, hx, and_comm]
theorem all_snoc {l : List Int} {p : Int → Bool} {k : Nat} (hk : k < l.length) : (l.take (k + 1)).all p = ((l.take k).all p && p l[k]) := by
  rw [List.take_succ_eq_append_getElem hk, List.all_append]; simp
set_option maxHeartbeats 1000000 in
theorem r11Alike (S T : Nat → Prop) (u v : Value) (among has : List Int) (w : World) (h : RInts S w u among) (hv : RInts T w v has) (hl : has.length ≤ 1000000) (hin : ∀ x ∈ among, 0 ≤ x ∧ x < has.length) :
    Calls Tryz.prog 122 #[u, v] w (GivesI (alikeL among has) w) := by
  obtain ⟨a, cap, rfl, h1, h2⟩ := RSl.shape h
  obtain ⟨a2, cap2, rfl, h12, h22⟩ := RSl.shape hv
  have hI := fun n W (hW : Below w.heap.size w W) => r11In S _ among n W (h.same (.of_below hW))
  have hH := fun W (hW : Below w.heap.size w W) => h.same (.of_below hW)
  have hH2 := fun W (hW : Below w.heap.size w W) => hv.same (.of_below hW)
  have HI := Lib.hid hI; have HH := Lib.hid hH; have HH2 := Lib.hid hH2; have Hin := Lib.hid hin
  clear hI hH hH2 h hv hin
  go_enter Tryz.func122, Tryz.ntmps122
  go_wp2
  go_loopw [5, 6] (fun s i wr => ∃ k : Nat, k ≤ has.length ∧ i = .int .i64 k ∧ Hid (Own w.heap.size 3 1 (dInt .i64) wr s ((rngI k).filter (alikeB among has))) ∧ Below w.heap.size w wr) (fun _ i _ => has.length - (intOf i).toNat)
  case atStart => exact ⟨0, Nat.zero_le _, rfl, Lib.hid (Own.nil _ _ _ _ _), Below.refl _ _⟩
  case round =>
    obtain ⟨k, hk, rfl, hO, hb⟩ := hrel
    obtain ⟨ao, co, rfl⟩ := Own.shape hO.out
    have hz := hb.size
    by_cases hlt : k < has.length
    · have hsl : ((rngI k).filter (alikeB among has)).length ≤ 1000000 := Nat.le_trans (List.length_filter_le _ _) (by rw [rngI_length]; omega)
      have hwf : (Lit.int .i64 (k : Int)).wf = true := WalkArith.wf_i64 (by omega)
      have hst : (rngI (k + 1)).filter (alikeB among has) = (rngI k).filter (alikeB among has) ++ if alikeB among has (k : Int) then [(k : Int)] else [] := by
        rw [rngI_succ, List.filter_append]
        congr 1
        cases h : alikeB among has (k : Int) <;> simp [h]
      have hcall := HI.out (k : Int) wr hb
      obtain ⟨b0, hb0⟩ : ∃ b0, hasI among (k : Int) = b0 := ⟨_, rfl⟩
      rw [hb0] at hcall
      obtain ⟨b2, off2, c2, rfl, hS2, hbw2, hc2, hx2⟩ := RSl.at1 (HH2.out wr hb) k hlt
      obtain ⟨rfl, -⟩ := hx2.open
      obtain ⟨hk', hhk⟩ : ∃ z, has[k] = z := ⟨_, rfl⟩
      rw [hhk] at hc2
      have hgk : gI has (k : Int) = hk' := by rw [gI_at hlt, hhk]
      have Hsl := Lib.hid hsl; have Hwf := Lib.hid hwf; have Hst := Lib.hid hst; have Hcall := Lib.hid hcall; have Hgk := Lib.hid hgk; have Hb0 := Lib.hid hb0
      clear hsl hwf hst hcall hgk hhk hb0
      go_wp2_with (go_at_call 32; refine Hcall.out.mono ?_; rintro e w1 ⟨rfl, rfl⟩)
      obtain ⟨wk, rfl⟩ : ∃ x, x = wr := ⟨_, rfl⟩
      go_loopw [7, 8] (fun m j W => ∃ (t : Nat), t ≤ among.length ∧ j = .int .i64 t ∧ m = .bool (b0 && (among.take t).all fun y => decide (gI has y ≤ hk')) ∧ Below wk.heap.size wk W) (fun _ j _ => among.length - (intOf j).toNat)
      case atStart => exact ⟨0, Nat.zero_le _, rfl, by simp, Below.refl _ _⟩
      case round =>
        obtain ⟨t, ht, rfl, rfl, hbi⟩ := hrel
        obtain ⟨W1, hW1⟩ : ∃ W1, W1 = wr := ⟨_, rfl⟩
        have hb1 : Below wk.heap.size wk W1 := by rw [hW1]; exact hbi
        have hzW := hb1.size
        have hbw1 : Below w.heap.size w W1 := hb.trans (hb1.mono hz)
        by_cases hlt2 : t < among.length
        · obtain ⟨b, off, c, rfl, hS, hbw, hc, hx⟩ := RSl.at1 (HH.out W1 hbw1) t hlt2
          obtain ⟨rfl, -⟩ := hx.open
          obtain ⟨y, hy⟩ : ∃ y, among[t] = y := ⟨_, rfl⟩
          obtain ⟨hy0, hy1⟩ := Hin.out y (hy ▸ List.getElem_mem hlt2)
          rw [hy] at hc
          have hyt : y.toNat < has.length := by omega
          obtain ⟨b3, off3, c3, e3, hS3, hbw3, hc3, hx3⟩ := RSl.at1 (HH2.out W1 hbw1) y.toNat hyt
          simp only [Option.some.injEq, Addr.mk.injEq, and_true] at e3
          obtain ⟨rfl, rfl⟩ := e3
          obtain ⟨rfl, -⟩ := hx3.open
          obtain ⟨hz', hhz⟩ : ∃ z, has[y.toNat] = z := ⟨_, rfl⟩
          rw [hhz] at hc3
          have hgz : gI has y = hz' := by rw [← hhz, gI, List.getD_eq_getElem?_getD, List.getElem?_eq_getElem hyt]; rfl
          have hst2 : (b0 && (among.take (t + 1)).all fun y => decide (gI has y ≤ hk')) = ((b0 && (among.take t).all fun y => decide (gI has y ≤ hk')) && decide (hz' ≤ hk')) := by
            rw [all_snoc hlt2, hy, hgz, Bool.and_assoc]
          obtain ⟨m0, hm0⟩ : ∃ m0, (b0 && (among.take t).all fun y => decide (gI has y ≤ hk')) = m0 := ⟨_, rfl⟩
          rw [hm0] at hst2 ⊢
          have e1 := fun p => cell_ext (w := W1) hc p
          have e2 := fun p => cell_ext (w := W1) hc3 p
          have e3 := fun p => cell_ext (w := W1) ((hb1.cell (p := ⟨_, _, none⟩) (lt_of_cell hc2)).trans hc2) p
          have Hst2 := Lib.hid hst2
          clear hst2 hm0 hgz hhz hy hbi
          cases m0
          · rw [Bool.false_and] at Hst2
            go_wp2
            rw [← hW1]
            clear hW1
            refine wp_region_ext (by kernel_rfl) (by kernel_rfl) ?_
            repeat (go_big_quiet_step (fail))
            refine wpQuiet_nil ?_
            intro w2 hw'
            have hb12 : Below W1.heap.size W1 w2 := by obtain ⟨p, rfl⟩ := hw'; exact below_ext W1 p
            clear hw' e1 e2 e3
            have hb2 := hb1.trans (hb12.mono hzW)
            go_wp2
            exact ⟨⟨t + 1, by omega, by go_num, by rw [Hst2.out], hb2⟩, by simp [intOf]; omega⟩
          · rw [Bool.true_and] at Hst2
            go_wp2
            rw [← hW1]
            clear hW1
            refine wp_region_ext (by kernel_rfl) (by kernel_rfl) ?_
            repeat (go_big_quiet_step (fail))
            refine wpQuiet_nil ?_
            intro w2 hw'
            have hb12 : Below W1.heap.size W1 w2 := by obtain ⟨p, rfl⟩ := hw'; exact below_ext W1 p
            clear hw' e1 e2 e3
            have hb2 := hb1.trans (hb12.mono hzW)
            go_wp2
            exact ⟨⟨t + 1, by omega, by go_num, by rw [Hst2.out], hb2⟩, by simp [intOf]; omega⟩
        · obtain rfl : t = among.length := by omega
          have hm : (b0 && (among.take among.length).all fun y => decide (gI has y ≤ hk')) = alikeB among has (k : Int) := by rw [List.take_length, alikeB, show among.contains (k : Int) = b0 from Hb0.out, Hgk.out]
          rw [hm]
          have hOW := Own.below (S := fun _ => False) (dInt.stable _ _) hO.out hb1
          have HOW := Lib.hid hOW
          have hz1 := hbw1.size
          obtain ⟨m1, hm1⟩ : ∃ m1, alikeB among has (k : Int) = m1 := ⟨_, rfl⟩
          have hst3 := Hst.out
          rw [hm1] at hst3
          have hnx := Lib.hid hst3
          rw [hm1]
          clear hm hst3 hm1 hOW hb1
          subst hW1
          cases m1
          · go_wp2
            exact ⟨⟨k + 1, by omega, by go_num, Lib.hid (by rw [hnx.out, if_neg (by simp), List.append_nil]; exact HOW.out), hbw1⟩, by simp [intOf]; omega⟩
          · go_wp2_with (at_builtin; go_must (refine wpList_appI _ Tryz.infoInt rfl rfl Tryz.underlying25 w.heap.size HOW.out rfl rfl Hwf.out Hsl.out hz1 ?_); intro a1 n1 c1 w1 ho1 hb1; have Ho1 := Lib.hid ho1; have Hb1 := Lib.hid (hb1 _ _ (Nat.le_refl _) hbw1); clear ho1 hb1)
            exact ⟨⟨k + 1, by omega, by go_num, Lib.hid (by rw [hnx.out, if_pos rfl]; exact Ho1.out), Hb1.out⟩, by simp [intOf]; omega⟩
    · obtain rfl : k = has.length := by omega
      go_wp2
      go_ret
      exact ⟨_, rfl, hO.out, hb⟩
theorem place_neg {l : List Int} {n : Int} : idxB (fun m => decide (m = n)) l < 0 ↔ l.contains n = false := by
  have h := idxB_iff (fun m => decide (m = n)) l
  have e : l.any (fun m => decide (m = n)) = l.contains n := by
    rw [List.contains_eq_any_beq]
    apply congrArg (List.any l)
    funext m
    rw [Bool.eq_iff_iff, decide_eq_true_eq, beq_iff_eq]
    exact eq_comm
  rw [e] at h
  cases hc : l.contains n
  · rw [hc] at h; simp at h; simp; omega
  · rw [hc] at h; simp at h; simp; omega
/-- A permutation of at most ten numbers. -/
def turnedB (l : List Int) : Bool := ((List.range l.length).all fun i => l.contains (i : Int)) && decide (1 ≤ l.length ∧ l.length ≤ 10)
set_option maxHeartbeats 400000 in
theorem r08Turned (S : Nat → Prop) (v : Value) (l : List Int) (w : World) (h : RInts S w v l) :
    Calls Tryz.prog 65 #[v] w fun e w' => e = .returned (.bool (turnedB l)) ∧ w = w' := by
  have hP := fun n => place08 S v l n w h
  obtain ⟨a, cap, rfl, h1, h2⟩ := RSl.shape h
  have HP := Lib.hid hP
  clear hP h
  go_enter Tryz.func65, Tryz.ntmps65
  go_wp2
  go_loop [3] (fun i => ∃ k : Nat, k ≤ l.length ∧ i = .int .i64 k ∧ Hid ((List.range k).all (fun i => l.contains (i : Int)) = true)) (fun i => l.length - (intOf i).toNat)
  case atStart => exact ⟨0, Nat.zero_le _, rfl, Lib.hid rfl⟩
  case round =>
    obtain ⟨k, hk, rfl, hg⟩ := hrel
    by_cases hlt : k < l.length
    · have hcall := HP.out (k : Int)
      obtain ⟨q, hq⟩ : ∃ q, idxB (fun m => decide (m = (k : Int))) l = q := ⟨_, rfl⟩
      have hn := place_neg (l := l) (n := (k : Int))
      rw [hq] at hcall hn
      have Hcall := Lib.hid hcall
      clear hcall hq
      cases hc : l.contains (k : Int)
      · have hq0 : q < 0 := hn.2 hc
        have Hc := Lib.hid hc
        clear hn hc
        go_wp2_with (go_at_call 84; refine Hcall.out.mono ?_; rintro e w1 ⟨rfl, rfl⟩)
        go_ret
        refine ⟨ret_bool ?_, rfl⟩
        symm
        rw [turnedB, Bool.and_eq_false_iff]
        left
        rw [List.all_eq_false]
        exact ⟨k, List.mem_range.2 hlt, by rw [Hc.out]; simp⟩
      · have hq0 : ¬ q < 0 := fun e => by rw [hn.1 e] at hc; cases hc
        have Hc := Lib.hid hc
        clear hn hc
        go_wp2_with (go_at_call 84; refine Hcall.out.mono ?_; rintro e w1 ⟨rfl, rfl⟩)
        go_round
        case rel => exact ⟨k + 1, by omega, by go_num, Lib.hid (by rw [List.range_succ, List.all_append, hg.out]; simpa using Hc.out)⟩
        case measure => simp [intOf]; omega
    · obtain rfl : k = l.length := by omega
      have hT : turnedB l = decide (1 ≤ l.length ∧ l.length ≤ 10) := by rw [turnedB, hg.out, Bool.true_and]
      by_cases h1l : 1 ≤ l.length
      · have k1 : (1 : Int) ≤ (l.length : Nat) := by omega
        by_cases h10 : l.length ≤ 10
        · have k2 : ((l.length : Nat) : Int) ≤ 10 := by omega
          have HT := Lib.hid (hT.trans (decide_eq_true ⟨h1l, h10⟩))
          clear hT
          go_wp2
          go_ret
          exact ⟨ret_bool HT.out.symm, rfl⟩
        · have k2 : ¬ ((l.length : Nat) : Int) ≤ 10 := by omega
          have HT := Lib.hid (hT.trans (decide_eq_false (fun h => h10 h.2)))
          clear hT
          go_wp2
          go_ret
          exact ⟨ret_bool HT.out.symm, rfl⟩
      · have k1 : ¬ (1 : Int) ≤ (l.length : Nat) := by omega
        have HT := Lib.hid (hT.trans (decide_eq_false (fun h => h1l h.1)))
        clear hT
        go_wp2
        go_ret
        exact ⟨ret_bool HT.out.symm, rfl⟩
/-- The reference's Lot. -/
def lotR (lot : List Int) (c : Int) : Bool := decide ((lot.length : Int) = c) && turnedB lot
theorem lotR_eq {lot : List Int} {c : Int} (h : 1 ≤ c ∧ c ≤ 10) : lotR lot c = lotB lot c := by
  by_cases e : (lot.length : Int) = c
  · rw [lotR, lotB, turnedB, decide_eq_true e, Bool.true_and, Bool.true_and, decide_eq_true (by omega), Bool.and_true]
  · rw [lotR, lotB, decide_eq_false e, Bool.false_and, Bool.false_and]
theorem r11Lot (S : Nat → Prop) (v : Value) (l : List Int) (c : Int) (w : World) (h : RInts S w v l) :
    Calls Tryz.prog 33 #[v, .int .i64 c] w fun e w' => e = .returned (.bool (lotR l c)) ∧ w = w' := by
  have hP := r08Turned S v l w h
  obtain ⟨a, cap, rfl, h1, h2⟩ := RSl.shape h
  have HP := Lib.hid hP
  clear hP h
  by_cases e : (l.length : Int) = c
  · have e' : (((l.length : Nat) : Int) == c) = true := by simpa using e
    have HE := Lib.hid e
    clear e
    go_enter Tryz.func33, Tryz.ntmps33
    go_wp2_with (go_at_call 65; refine HP.out.mono ?_; rintro e w1 ⟨rfl, rfl⟩)
    go_ret
    exact ⟨ret_bool (by rw [lotR, decide_eq_true HE.out, Bool.true_and]), rfl⟩
  · have e' : (((l.length : Nat) : Int) == c) = false := by simpa using e
    have HE := Lib.hid e
    clear e
    go_enter Tryz.func33, Tryz.ntmps33
    go_wp2_with (go_at_call 65; refine HP.out.mono ?_; rintro e w1 ⟨rfl, rfl⟩)
    go_ret
    exact ⟨ret_bool (by rw [lotR, decide_eq_false HE.out, Bool.false_and]), rfl⟩
end Go.Proofs.YtogngcbflhdadaaGreat

/- Contracts of slices.Index, Sort and DeleteFunc at integers, in rows of the call's own; choose.All, choose.Best. -/
namespace Go.Proofs.YtogngcbflhdadaaGreat
open Go Go.RowKit Go.Shelf Go.Sort

theorem RInts.cells {S : Nat → Prop} {w : World} {b off n cap : Nat} {l : List Int} (h : RInts S w (.slice (some ⟨b, off, none⟩) n cap) l) : ∀ j, j < l.length → w.cell? ⟨b, off + j, none⟩ = some (.int .i64 (l.getD j 0)) := fun j hj => by
  obtain ⟨b', off', c, e1, -, -, hc, hx⟩ := RSl.at1 h j hj
  simp only [Option.some.injEq, Addr.mk.injEq, and_true] at e1
  obtain ⟨rfl, rfl⟩ := e1
  obtain ⟨rfl, -⟩ := hx.open
  rw [hc, List.getD_eq_getElem?_getD, List.getElem?_eq_getElem hj]; rfl
/-- slices.Index. -/
theorem slIndex (S : Nat → Prop) (v : Value) (l : List Int) (x : Int) (w : World) (h : RInts S w v l) :
    Calls Tryz.prog 92 #[v, .int .i64 x] w fun e w' => e = .returned (.int .i64 (Lib.idxOf l x)) ∧ w' = w := by
  have h0 := h
  obtain ⟨a, cap, rfl, h1, h2⟩ := RSl.shape h
  rcases Nat.eq_zero_or_pos l.length with hz | hz
  · obtain rfl := List.eq_nil_of_length_eq_zero hz
    exact Tryz.slices_Index_int_empty a cap x w
  · obtain ⟨b, off, c, rfl, -, -, -, -⟩ := RSl.at1 h 0 hz
    have := Tryz.slices_Index_int b off l.length cap l x w (Nat.le_refl _) (by omega) (RInts.cells h0)
    rwa [List.take_length] at this
theorem idxFrom_eq : ∀ {l : List Int} {x : Int} {i : Nat}, x ∈ l → Lib.idxFrom l x i = ((i + l.idxOf x : Nat) : Int)
  | [], _, _, h => absurd h List.not_mem_nil
  | a :: l, x, i, h => by
    by_cases e : a = x
    · subst e
      simp [Lib.idxFrom]
    · have hx : x ∈ l := by rcases List.mem_cons.1 h with r | r; exact absurd r.symm e; exact r
      have ih := idxFrom_eq (i := i + 1) hx
      have e2 : (a == x) = false := by simpa using e
      rw [List.idxOf_cons, e2]
      simp only [cond_false]
      simp only [Lib.idxFrom, if_neg e, ih]
      omega
theorem idxOf_eq {l : List Int} {x : Int} (h : x ∈ l) : Lib.idxOf l x = (l.idxOf x : Nat) := by
  rw [Lib.idxOf, idxFrom_eq h, Nat.zero_add]
theorem Own.cur {base : Nat} {e : TypeId} {w : World} {v : Value} {xs : List Int} (h : Own base e 1 (dInt .i64) w v xs) :
    (v = .slice none 0 0 ∧ xs = []) ∨ ∃ g cap cur, v = .slice (some ⟨g, 0, none⟩) xs.length cap ∧ base ≤ g ∧ w.heap[g]? = some (.cells cur e (0, 0)) ∧ xs.length ≤ cap ∧ cap ≤ maxLen ∧ cur.size = cap * 1 ∧ cur.toList.take xs.length = xs.map (Value.int .i64) ∧ ∀ x ∈ xs, (Lit.int .i64 x).wf = true := by
  obtain ⟨cells, ⟨hl, ho⟩, hD⟩ := h
  have hcs : cells = xs.map (Value.int .i64) ∧ ∀ x ∈ xs, (Lit.int .i64 x).wf = true := by
    rw [Nat.mul_one] at hl
    have hk : ∀ k (hk : k < xs.length) (hk2 : k < cells.length), cells[k] = .int .i64 xs[k] ∧ (Lit.int .i64 xs[k]).wf = true := fun k hk hk2 => by
      have := hD.2 k hk
      rw [Nat.mul_one, List.drop_eq_getElem_cons hk2, List.take_succ_cons, List.take_zero] at this
      exact this.open
    refine ⟨List.ext_getElem (by simpa using hl) fun k k1 k2 => ?_, fun x hx => ?_⟩
    · rw [(hk k (by simpa using k2) k1).1]; simp
    · obtain ⟨k, hk3, rfl⟩ := List.getElem_of_mem hx
      exact (hk k hk3 (by omega)).2
  rcases ho with ⟨h1, h2⟩ | ⟨g, cap, cur, h1, h2, h3, h4, h5, h6, h7⟩
  · exact .inl ⟨h1, List.eq_nil_of_length_eq_zero h2⟩
  · rw [Nat.mul_one] at h7
    exact .inr ⟨g, cap, cur, h1, h2, h3, h4, h5, h6, by rw [h7, hcs.1], hcs.2⟩
theorem Own.ofInts {base : Nat} {e : TypeId} {w : World} {v : Value} {xs : List Int} (h : w.ownsRow base e 1 v xs.length (xs.map (Value.int .i64))) (hw : ∀ x ∈ xs, (Lit.int .i64 x).wf = true) : Own base e 1 (dInt .i64) w v xs :=
  ⟨xs.map (Value.int .i64), h, by simp, fun i hi => by
    have hk2 : i < (xs.map (Value.int .i64)).length := by simpa using hi
    rw [Nat.mul_one, List.drop_eq_getElem_cons hk2, List.take_succ_cons, List.take_zero, List.getElem_map]
    exact ⟨rfl, hw _ (List.getElem_mem hi)⟩⟩
theorem ownsRow_cut {w : World} {base g cap k n : Nat} {e : TypeId} {xs : List Value} (h : w.ownsRow base e 1 (.slice (some ⟨g, 0, none⟩) n cap) n xs) (hk : k ≤ n) : w.ownsRow base e 1 (.slice (some ⟨g, 0, none⟩) k cap) k (xs.take k) := by
  obtain ⟨hl, ho⟩ := h
  rcases ho with ⟨h1, -⟩ | ⟨g', cap', cur, h1, h2, h3, h4, h5, h6, h7⟩
  · cases h1
  · simp only [Value.slice.injEq, Option.some.injEq, Addr.mk.injEq, and_true] at h1
    obtain ⟨rfl, -, rfl⟩ := h1
    refine ⟨by simp; omega, .inr ⟨g, cap, cur, rfl, h2, h3, by omega, h5, h6, ?_⟩⟩
    rw [← h7, List.take_take, Nat.mul_one, Nat.mul_one, Nat.min_eq_left hk]
/-- A row of the call's own, rewritten in place. -/
def InPlace (base : Nat) (v : Value) (ys : List Int) (w : World) (w' : World) : Prop := Own base 3 1 (dInt .i64) w' v ys ∧ ∀ B W0, B ≤ base → Below B W0 w → Below B W0 w'
theorem slSort (base : Nat) (v : Value) (xs : List Int) (w : World) (h : Own base 3 1 (dInt .i64) w v xs) (hb : base ≤ w.heap.size) (hl : xs.length ≤ 1000000) :
    Calls Tryz.prog 102 #[v] w fun e w' => e = .returned (.tuple #[]) ∧ InPlace base v (sortI xs) w w' := by
  have h0 := h
  rcases h.cur with ⟨rfl, rfl⟩ | ⟨g, cap, cur, rfl, hbg, hg, h1, h2, h3, h4, h5⟩
  · refine (Tryz.slices_Sort_int_none none 0 w).mono ?_
    rintro e w' ⟨rfl, rfl⟩
    have : sortI [] = [] := List.eq_nil_of_length_eq_zero (sortI_length [])
    rw [this]
    exact ⟨rfl, h0, fun _ _ _ h => h⟩
  · refine (Tryz.slices_Sort_int g 0 cap xs w (holds_of_blockI hg h4) (size_of_box hg) (by omega)).mono ?_
    rintro e w' ⟨rfl, n, os, rfl⟩
    have hgr := grownBy_sortedI (w := w) (g := g) (n := n) (os := os) (sortI xs).toArray
    have hrow := ownsRow_sortedI (ts := sortI xs) (ss := xs) (n := n) (os := os) (sortI_length xs) hbg hg h1 h2 h3
    rw [← sortI_length xs] at hrow
    have hO := Own.ofInts hrow (fun x hx => h5 x ((sortI_perm xs).mem_iff.1 hx))
    rw [sortI_length] at hO
    exact ⟨rfl, hO, fun B W0 hB hW => hW.grown hgr (by omega) (fun k e => by cases e; omega)⟩
set_option maxHeartbeats 400000 in
theorem choAll (n : Nat) (w : World) (hn : n ≤ 1000000) : Calls Tryz.prog 147 #[.int .i64 n] w (GivesI (rngI n) w) := by
  go_enter Tryz.func147, Tryz.ntmps147
  go_wp2
  go_loopw [2, 3, 5] (fun s _ i wr => ∃ k : Nat, k ≤ n ∧ i = .int .i64 k ∧ Hid (Own w.heap.size 3 1 (dInt .i64) wr s (rngI k)) ∧ Below w.heap.size w wr) (fun _ _ i _ => n - (intOf i).toNat)
  case atStart => exact ⟨0, Nat.zero_le _, rfl, Lib.hid (Own.nil _ _ _ _ _), Below.refl _ _⟩
  case round =>
    obtain ⟨k, hk, rfl, hO, hb⟩ := hrel
    obtain ⟨ao, co, rfl⟩ := Own.shape hO.out
    have hz := hb.size
    by_cases hlt : k < n
    · have hsl : (rngI k).length ≤ 1000000 := by rw [rngI_length]; omega
      have hwf : (Lit.int .i64 (k : Int)).wf = true := WalkArith.wf_i64 (by omega)
      have Hsl := Lib.hid hsl; have Hwf := Lib.hid hwf
      clear hsl hwf
      go_wp2_with (at_builtin; go_must (refine wpList_appI wr Tryz.infoInt rfl rfl Tryz.underlying25 w.heap.size hO.out rfl rfl Hwf.out Hsl.out hz ?_); intro a1 n1 c1 w1 ho1 hb1; have Ho1 := Lib.hid ho1; have Hb1 := Lib.hid (hb1 _ _ (Nat.le_refl _) hb); clear ho1 hb1)
      exact ⟨⟨k + 1, by omega, by go_num, Lib.hid (by rw [rngI_succ]; exact Ho1.out), Hb1.out⟩, by simp [intOf]; omega⟩
    · obtain rfl : k = n := by omega
      go_wp2
      go_ret
      exact ⟨_, rfl, hO.out, hb⟩
end Go.Proofs.YtogngcbflhdadaaGreat

/- Two rows of the call's own beside one another: what an append to the one leaves of the other. -/
namespace Go.Proofs.YtogngcbflhdadaaGreat
open Go Go.RowKit Go.Shelf

/-- The rows lie in blocks apart. -/
def ApartV (v u : Value) : Prop := ∀ b, v.ownBlock = some b → u.ownBlock ≠ some b
theorem ApartV.or {v u : Value} (h : ApartV v u) : v.ownBlock = none ∨ v.ownBlock ≠ u.ownBlock := by
  cases hv : v.ownBlock with
  | none => exact .inl rfl
  | some b => exact .inr fun e => h b hv e.symm
theorem own_type {α : Type} {base n : Nat} {e : TypeId} {dec : World → List Value → α → Prop} {w : World} {v : Value} {xs : List α} (h : Own base e n dec w v xs) {g : Nat} (hg : v.ownBlock = some g) : ∃ cur, w.heap[g]? = some (.cells cur e (0, 0)) := by
  obtain ⟨cells, ⟨_, h2⟩, _⟩ := h
  rcases h2 with ⟨rfl, _⟩ | ⟨g', cap, cur, rfl, _, h3, _⟩
  · cases hg
  · cases hg; exact ⟨cur, h3⟩
/-- Rows of two types lie in blocks apart. -/
theorem apart_types {α β : Type} {b1 b2 n1 n2 : Nat} {e1 e2 : TypeId} {d1 : World → List Value → α → Prop} {d2 : World → List Value → β → Prop} {w : World} {v u : Value} {xs : List α} {ys : List β} (h1 : Own b1 e1 n1 d1 w v xs) (h2 : Own b2 e2 n2 d2 w u ys) (hne : e1 ≠ e2) : ApartV v u := by
  intro g hv e
  refine hne ?_
  obtain ⟨c1, k1⟩ := own_type h1 hv
  obtain ⟨c2, k2⟩ := own_type h2 e
  rw [k1] at k2
  simp only [Option.some.injEq, Obj.cells.injEq] at k2
  exact k2.2.1
theorem Own.aside {base : Nat} {e : TypeId} {k : IntKind} {w w' : World} {v : Value} {xs : List Int} {row : Option Nat} (h : Own base e 1 (dInt k) w v xs) (hg : w.grownBy w' row) (hne : v.ownBlock = none ∨ v.ownBlock ≠ row) : Own base e 1 (dInt k) w' v xs :=
  Own.kept (S := fun _ => False) (dInt.stable _ _) h hg hne (fun _ _ h => h.elim)
section
variable {P : Program} (w : World)
/-- As wpList_appI; beside it, what has grown, and where the row lies. -/
theorem wpList_appJ {ops : Array Oper} {rest : List Oper} {o : Oper} {a : Act} {Q : Exit → Act → World → Prop} {e t : TypeId} (hinfo : (P.info? e).map (fun i => (i.zero, i.size, i.bytes)) = some (some (.int .i64 0), 1, 8))
    (hgd : o.guard = none) {s x : Operand} (ho : o.op = .call { callee := .builtin .append, args := #[s, x], argTypes := #[t, t] }) (ht : P.underlying t = some (.slice e)) (base : Nat)
    {v : Value} {xs : List Int} {y : Int} (hown : Own base e 1 (dInt .i64) w v xs) (hs : a.eval s = v) (hx : a.eval x = .slice (some ⟨w.heap.size, 0, none⟩) 1 1) (hwf : (Lit.int .i64 y).wf = true)
    (hl : xs.length ≤ 1000000) (hbase : base ≤ w.heap.size)
    (h : ∀ a' n' c' w', Own base e 1 (dInt .i64) w' (.slice a' n' c') (xs ++ [y]) → (∀ B W0, B ≤ base → Below B W0 w → Below B W0 w') → w.grownBy w' v.ownBlock →
      ((Value.slice a' n' c').ownBlock = v.ownBlock ∨ ∃ b, (Value.slice a' n' c').ownBlock = some b ∧ w.heap.size ≤ b) → wpList P ops Q rest (a.put o.dst (.slice a' n' c')) w') :
    wpList P ops Q (o :: rest) a (w.alloc (.cells #[.int .i64 y] e)) := by
  have hO := Own.below (S := fun _ => False) (dInt.stable _ _) hown (below_new w (.cells #[.int .i64 y] e))
  refine wpList_appV (w.alloc (.cells #[.int .i64 y] e)) hinfo hgd ho ht ⟨rfl, by omega, by omega⟩ (dInt.one _) (dInt.stable (fun _ => False) .i64) base hO hs (RSl.built (w' := w.alloc (.cells #[.int .i64 y] e)) (cs := [.int .i64 y]) (x := y) (Nat.zero_le _) (box_new w _) rfl ⟨rfl, hwf⟩) hx (by simp only [List.length_cons, List.length_nil]; omega) (by simp; omega) ?_
  intro a' n' c' w' hg hat ho'
  refine h a' n' c' w' (ho' (fun _ _ h => h.elim)) (fun B W0 hB hW => ?_) ((World.grownBy_alloc w _ _).trans hg) ?_
  · exact (hW.alloc (by omega) _).grown hg (by simp; omega) (fun k e => by have := (Own.lt hO k e).1; omega)
  · rcases hat with e | e
    · exact .inl e
    · exact .inr ⟨_, e, by simp⟩
theorem wpList_appF {α : Type} {z : Value} {size bytes : Nat} {ops : Array Oper} {rest : List Oper} {o : Oper} {a : Act} {Q : Exit → Act → World → Prop} {e t : TypeId} (hinfo : (P.info? e).map (fun i => (i.zero, i.size, i.bytes)) = some (some z, size, bytes))
    (hgd : o.guard = none) {s x : Operand} (ho : o.op = .call { callee := .builtin .append, args := #[s, x], argTypes := #[t, t] }) (ht : P.underlying t = some (.slice e))
    (hzs : z.cells.size = size ∧ 0 < size ∧ 0 < bytes ∧ bytes ≤ 1000) {dec : World → List Value → α → Prop} {S : Nat → Prop} (h1 : OneC dec) (hst : Stable S dec) (base : Nat)
    {v : Value} {xs : List α} (hown : Own base e size dec w v xs) (hSv : ∀ b, S b → some b ≠ v.ownBlock) (hs : a.eval s = v) {cs : List Value} {y : α} (hl : cs.length = size) (hy : dec w cs y)
    (hx : a.eval x = .slice (some ⟨w.heap.size, 0, none⟩) 1 1) (h63 : xs.length ≤ 1000000) (hbase : base ≤ w.heap.size)
    (h : ∀ a' n' c' w', Own base e size dec w' (.slice a' n' c') (xs ++ [y]) → (∀ B W0, B ≤ base → Below B W0 w → Below B W0 w') → w.grownBy w' v.ownBlock →
      ((Value.slice a' n' c').ownBlock = v.ownBlock ∨ ∃ b, (Value.slice a' n' c').ownBlock = some b ∧ w.heap.size ≤ b) → wpList P ops Q rest (a.put o.dst (.slice a' n' c')) w') :
    wpList P ops Q (o :: rest) a (w.alloc (.cells cs.toArray e)) := by
  have hO := Own.below (S := S) hst hown (below_new w (.cells cs.toArray e))
  refine wpList_appV (w.alloc (.cells cs.toArray e)) hinfo hgd ho ht ⟨hzs.1, hzs.2.1, hzs.2.2.1⟩ h1 hst base hO hs (RSl.built (w' := w.alloc (.cells cs.toArray e)) (cs := cs) (x := y) (Nat.zero_le _) (box_new w _) hl (hst _ _ _ _ (.of_below (below_new _ _)) hy)) hx ?_ (by simp; omega) ?_
  · have h1 : (xs.length + 1) * bytes ≤ 1000001 * 1000 := Nat.mul_le_mul (by omega) hzs.2.2.2
    simp only [List.length_cons, List.length_nil, Nat.zero_add]
    omega
  · intro a' n' c' w' hg hat ho'
    refine h a' n' c' w' (ho' (.of_grown hg hSv)) (fun B W0 hB hW => ?_) ((World.grownBy_alloc w _ _).trans hg) ?_
    · exact (hW.alloc (by omega) _).grown hg (by simp; omega) (fun k e => by have := (Own.lt hO k e).1; omega)
    · rcases hat with e | e
      · exact .inl e
      · exact .inr ⟨_, e, by simp⟩
end
set_option maxHeartbeats 400000 in
set_option maxRecDepth 100000 in
theorem r11TiedG (base : Nat) (S : Nat → Prop) (u v : Value) (ts : List Tie) (among : List Int) (x : Int) (w : World) (h : Own base 72 2 (dTie S) w u ts) (hS : ∀ b, S b → some b ≠ u.ownBlock) (hv : RInts S w v among) (hx : (Lit.int .i64 x).wf = true) (hb : base ≤ w.heap.size) (hl : ts.length ≤ 1000000) :
    Calls Tryz.prog 123 #[u, v, .int .i64 x] w fun e w' => ∃ v', e = .returned v' ∧ Own base 72 2 (dTie S) w' v' (ts ++ tieL among x) ∧ (∀ B W0, B ≤ base → Below B W0 w → Below B W0 w') ∧ w.grownBy w' u.ownBlock ∧
      (v'.ownBlock = u.ownBlock ∨ ∃ b, v'.ownBlock = some b ∧ w.heap.size ≤ b) := by
  obtain ⟨a, cap, rfl⟩ := Own.shape h
  have hD : dTie S w [v, .int .i64 x] ⟨among, x⟩ := ⟨v, rfl, hx, hv⟩
  obtain ⟨a2, cap2, rfl, h12, h22⟩ := RSl.shape hv
  have HO := Lib.hid h; have HD := Lib.hid hD; have Hl := Lib.hid hl; have HS := Lib.hid hS
  clear h hD hv hl hS
  by_cases h2 : among.length < 2
  · have hti : tieL among x = [] := if_neg (by omega)
    rw [hti, List.append_nil]
    clear hti
    have hlt : ((among.length : Nat) : Int) < 2 := by omega
    clear h12 h22 h2
    go_enter Tryz.func123, Tryz.ntmps123
    go_wp2
    go_ret
    exact ⟨_, rfl, HO.out, fun _ _ _ h => h, grownBy_of_below (Below.refl _ _) |>.but _, .inl rfl⟩
  · have hti : tieL among x = [⟨among, x⟩] := if_pos (by omega)
    rw [hti]
    clear hti
    have hlt : ¬ ((among.length : Nat) : Int) < 2 := by omega
    clear h12 h22 h2
    go_enter Tryz.func123, Tryz.ntmps123
    go_wp2_with (at_builtin; go_must (refine wpList_appF w Tryz.infoTie rfl rfl Tryz.underlying30 ⟨rfl, by omega, by omega, by omega⟩ (dTie.one S) (dTie.stable S) base HO.out HS.out rfl (cs := [.slice a2 among.length cap2, .int .i64 x]) rfl HD.out rfl Hl.out hb ?_); intro a1 n1 c1 w1 ho1 hb1 hg1 ht1; have Ho1 := Lib.hid ho1; have Hb1 := Lib.hid hb1; have Hg1 := Lib.hid hg1; have Ht1 := Lib.hid ht1; clear ho1 hb1 hg1 ht1)
    go_ret
    exact ⟨_, rfl, Ho1.out, Hb1.out, Hg1.out, Ht1.out⟩
end Go.Proofs.YtogngcbflhdadaaGreat

/- The contract of the reference's Seats. -/
namespace Go.Proofs.YtogngcbflhdadaaGreat
open Go Go.RowKit Go.Shelf

/-- The region of the ties' members: apart from the two rows that grow. -/
def Tz (base : Nat) (w : World) (ve vt : Value) : Nat → Prop := fun b => base ≤ b ∧ b < w.heap.size ∧ some b ≠ ve.ownBlock ∧ some b ≠ vt.ownBlock
theorem Tz.up {base : Nat} {w w' : World} {ve vt ve' vt' : Value} (hs : w.heap.size ≤ w'.heap.size) (he : ve'.ownBlock = ve.ownBlock ∨ ∃ b, ve'.ownBlock = some b ∧ w.heap.size ≤ b) (ht : vt'.ownBlock = vt.ownBlock ∨ ∃ b, vt'.ownBlock = some b ∧ w.heap.size ≤ b) : ∀ b, Tz base w ve vt b → Tz base w' ve' vt' b := fun b ⟨h0, h1, h2, h3⟩ => by
  refine ⟨h0, by omega, ?_, ?_⟩
  · rcases he with e | ⟨c, e, hc⟩
    · rw [e]; exact h2
    · rw [e]; intro h; cases h; omega
  · rcases ht with e | ⟨c, e, hc⟩
    · rw [e]; exact h3
    · rw [e]; intro h; cases h; omega
theorem Own.tmono {α : Type} {base : Nat} {e : TypeId} {n : Nat} {dec : (Nat → Prop) → World → List Value → α → Prop} (F : Fam dec) {S T : Nat → Prop} {w : World} {v : Value} {xs : List α} (hT : ∀ b, S b → T b) (h : Own base e n (dec S) w v xs) : Own base e n (dec T) w v xs :=
  Own.dmono (fun _ _ hd => F.mono hT hd) h
/-- Elected and ties as results. -/
def GivesS (el : List Int) (ts : List Tie) (w : World) (e : Ending) (w' : World) : Prop :=
  ∃ ve vt, e = .returned (.tuple #[ve, vt]) ∧ Own w.heap.size 3 1 (dInt .i64) w' ve el ∧ Own w.heap.size 72 2 (dTie (Tz w.heap.size w' ve vt)) w' vt ts ∧ Below w.heap.size w w'
/-- The loop's state. -/
structure SeatI (base : Nat) (w wr : World) (ve vt vl : Value) (s : St) : Prop where
  el : Own base 3 1 (dInt .i64) wr ve s.elected
  ti : Own base 72 2 (dTie (Tz base wr ve vt)) wr vt s.ties
  le : Own base 3 1 (dInt .i64) wr vl s.left
  ap : ApartV vl ve
  below : Below base w wr
theorem tie_ne_int : 72 ≠ 3 := by decide
section
variable {base : Nat} {w wr w1 : World} {ve vt vl : Value} {s : St}
theorem SeatI.later (h : SeatI base w wr ve vt vl s) (hb : Below wr.heap.size wr w1) (hz : base ≤ wr.heap.size) : SeatI base w w1 ve vt vl s :=
  ⟨h.el.aside (grownBy_of_below hb) (by cases ve.ownBlock <;> simp), Own.tmono famTie (Tz.up hb.size (.inl rfl) (.inl rfl)) (Own.below (dTie.stable _) h.ti hb), h.le.aside (grownBy_of_below hb) (by cases vl.ownBlock <;> simp), h.ap, h.below.trans (hb.mono hz)⟩
theorem SeatI.tie (h : SeatI base w wr ve vt vl s) {vt2 : Value} {ts : List Tie} (h2 : Own base 72 2 (dTie (Tz base wr ve vt)) w1 vt2 ts) (hB : ∀ B W0, B ≤ base → Below B W0 wr → Below B W0 w1) (hg : wr.grownBy w1 vt.ownBlock)
    (hl : vt2.ownBlock = vt.ownBlock ∨ ∃ b, vt2.ownBlock = some b ∧ wr.heap.size ≤ b) : SeatI base w w1 ve vt2 vl ⟨s.left, s.elected, ts⟩ :=
  ⟨h.el.aside hg (apart_types h.el h.ti tie_ne_int.symm).or, Own.tmono famTie (Tz.up hg.size (.inl rfl) hl) h2, h.le.aside hg (apart_types h.le h.ti tie_ne_int.symm).or, h.ap, hB _ _ (Nat.le_refl _) h.below⟩
theorem SeatI.elect (h : SeatI base w wr ve vt vl s) {ve2 : Value} {el : List Int} (h2 : Own base 3 1 (dInt .i64) w1 ve2 el) (hB : ∀ B W0, B ≤ base → Below B W0 wr → Below B W0 w1) (hg : wr.grownBy w1 ve.ownBlock)
    (hl : ve2.ownBlock = ve.ownBlock ∨ ∃ b, ve2.ownBlock = some b ∧ wr.heap.size ≤ b) : SeatI base w w1 ve2 vt vl ⟨s.left, el, s.ties⟩ := by
  refine ⟨h2, Own.tmono famTie (Tz.up hg.size hl (.inl rfl)) (Own.kept (S := Tz base wr ve vt) (dTie.stable _) h.ti hg (apart_types h.ti h.el tie_ne_int).or (.of_grown hg fun b hb => hb.2.2.1)), h.le.aside hg h.ap.or, ?_, hB _ _ (Nat.le_refl _) h.below⟩
  intro b hb e
  rcases hl with hl | ⟨c, hc, hz⟩
  · exact h.ap b hb (hl ▸ e)
  · rw [hc] at e; cases e
    have := (Own.lt h.le b hb).2; omega
theorem SeatI.drop (h : SeatI base w wr ve vt vl s) {vl2 : Value} {le : List Int} (h2 : Own wr.heap.size 3 1 (dInt .i64) w1 vl2 le) (hb : Below wr.heap.size wr w1) (hz : base ≤ wr.heap.size) : SeatI base w w1 ve vt vl2 ⟨le, s.elected, s.ties⟩ := by
  have k := h.later hb hz
  refine ⟨k.el, k.ti, Own.rebase h2 hz, ?_, k.below⟩
  intro b hb' e
  have := (Own.lt h2 b hb').1
  have := (Own.lt h.el b e).2
  omega
theorem SeatI.among (h : SeatI base w wr ve vt vl s) {va : Value} {am : List Int} (h2 : Own wr.heap.size 3 1 (dInt .i64) w1 va am) (hl : am.length ≤ 1000000) (hz : base ≤ wr.heap.size) : RInts (Tz base w1 ve vt) w1 va am := by
  have h3 : RSl (Cut (From wr.heap.size) w1.heap.size) 1 (dInt .i64) w1 va am := RSl.cut (by omega) (fun _ _ h => h) (Own.rsl h2 (by omega))
  refine RSl.mono (fun _ _ _ h => h) (fun b hb => ⟨Nat.le_trans hz hb.1, hb.2, fun e => ?_, fun e => ?_⟩) h3
  · have := (Own.lt h.el b e.symm).2; have := hb.1; simp only [From] at this; omega
  · have := (Own.lt h.ti b e.symm).2; have := hb.1; simp only [From] at this; omega
end
theorem seat_ties (had lot : List Int) (i : Nat) : (seatSt had lot i).ties.length ≤ i := by
  induction i with
  | zero => exact Nat.le_refl _
  | succ i ih =>
    simp only [seatSt, List.length_append, tieL]
    split <;> simp <;> omega
set_option maxHeartbeats 2000000 in
set_option maxRecDepth 100000 in
theorem r11Seats (S T : Nat → Prop) (u v : Value) (had lot : List Int) (seats : Nat) (w : World) (h : RInts S w u had) (hv : RInts T w v lot) (hl : LotOf lot had.length) (hh : had.length ≤ 1000) (hs : seats ≤ had.length) :
    Calls Tryz.prog 83 #[u, .int .i64 seats, v] w (GivesS (seatSt had lot seats).elected (seatSt had lot seats).ties w) := by
  obtain ⟨a, cap, rfl, h1, h2⟩ := RSl.shape h
  obtain ⟨a2, cap2, rfl, h12, h22⟩ := RSl.shape hv
  have hA := fun W => r11All had.length W (by omega)
  have hH := fun W (hW : Below w.heap.size w W) => h.same (.of_below hW)
  have hL := fun W (hW : Below w.heap.size w W) => hv.same (.of_below hW)
  obtain ⟨n, hn⟩ : ∃ n, had.length = n := ⟨_, rfl⟩
  obtain ⟨nl, hnl⟩ : ∃ nl, lot.length = nl := ⟨_, rfl⟩
  rw [hn] at hA hH
  rw [hnl] at hL
  rw [hn, hnl]
  have HA := Lib.hid hA; have HH := Lib.hid hH; have HL := Lib.hid hL; have Hl := Lib.hid hl; have Hn := Lib.hid hn
  rw [hn] at hs hh
  clear hA hH hL h hv h1 h2 h12 h22 hl hn hnl
  go_enter Tryz.func83, Tryz.ntmps83
  go_wp2_with (go_at_call 121; refine (HA.out _).mono ?_; rintro e w0 ⟨vl0, rfl, hO0, hb0⟩; have HO0 := Lib.hid hO0; clear hO0)
  go_loopw [8, 9, 10, 11, 12, 13] (fun ve vt vl i _ _ wr => ∃ k : Nat, k ≤ seats ∧ i = .int .i64 k ∧ Hid (SeatI w.heap.size w wr ve vt vl (seatSt had lot k))) (fun _ _ _ i _ _ _ => seats - (intOf i).toNat)
  case atStart => exact ⟨0, Nat.zero_le _, rfl, Lib.hid ⟨Own.nil _ _ _ _ _, Own.nil _ _ _ _ _, by simp only [seatSt]; rw [Hn.out]; exact HO0.out, fun b _ e => by simp [Value.ownBlock] at e, hb0⟩⟩
  case round =>
    obtain ⟨k, hk, rfl, HI⟩ := hrel
    have hb := HI.out.below
    have hz := hb.size
    obtain ⟨ae, ce, rfl⟩ := Own.shape HI.out.el
    obtain ⟨at_, ct, rfl⟩ := Own.shape HI.out.ti
    obtain ⟨al, cl, rfl⟩ := Own.shape HI.out.le
    obtain ⟨me, hme⟩ : ∃ m, (seatSt had lot k).elected.length = m := ⟨_, rfl⟩
    obtain ⟨mt, hmt⟩ : ∃ m, (seatSt had lot k).ties.length = m := ⟨_, rfl⟩
    obtain ⟨ml, hml⟩ : ∃ m, (seatSt had lot k).left.length = m := ⟨_, rfl⟩
    rw [hme, hmt, hml] at HI
    rw [hme, hmt, hml]
    by_cases hlt : k < seats
    · have hN := Hn.out
      obtain ⟨-, hcand, hcount⟩ := seat_facts Hl.out k (by rw [Hn.out]; omega)
      have hleft : ∀ x ∈ (seatSt had lot k).left, 0 ≤ x ∧ x < had.length := fun x hx => by rw [seat_left] at hx; exact mem_rngI.1 (List.mem_filter.1 hx).1
      have hne : (seatSt had lot k).left ≠ [] := fun e => by rw [e] at hcount; have := Hn.out; simp at hcount; omega
      obtain ⟨hwin, hwin2⟩ := seat_win Hl.out hne
      have hxb := hleft _ hwin2
      have hstep : seatSt had lot (k + 1) = ⟨(seatSt had lot k).left.filter (fun y => !(y == firstL lot (bestL (gI had) (seatSt had lot k).left))), (seatSt had lot k).elected ++ [firstL lot (bestL (gI had) (seatSt had lot k).left)], (seatSt had lot k).ties ++ tieL (bestL (gI had) (seatSt had lot k).left) (firstL lot (bestL (gI had) (seatSt had lot k).left))⟩ := rfl
      have hal : alikeL (seatSt had lot k).left had = bestL (gI had) (seatSt had lot k).left := by rw [seat_left]; exact alike_best
      have hts := seat_ties had lot k
      obtain ⟨am, ham⟩ : ∃ am, bestL (gI had) (seatSt had lot k).left = am := ⟨_, rfl⟩
      rw [ham] at hstep hal hwin hwin2 hxb
      have haml : am.length ≤ 1000000 := by rw [← ham]; exact Nat.le_trans (List.length_filter_le _ _) (by omega)
      obtain ⟨x, hx⟩ : ∃ x, firstL lot am = x := ⟨_, rfl⟩
      rw [hx] at hstep hwin hwin2 hxb
      have hwf : (Lit.int .i64 x).wf = true := WalkArith.wf_i64 (by have := Hn.out; omega)
      have hAl := r11Alike _ _ _ _ (seatSt had lot k).left had wr (Own.rsl HI.out.le (by rw [hml]; omega)) (HH.out wr hb) (by have := Hn.out; omega) hleft
      rw [hal] at hAl
      have hFi := fun w1 va (h1 : Below wr.heap.size wr w1) (h2 : Own wr.heap.size 3 1 (dInt .i64) w1 va am) => r11First _ _ _ va lot am w1 (HL.out w1 (hb.trans (h1.mono hz))) (Own.rsl h2 (by omega))
      rw [hx] at hFi
      have hTi := fun w1 va (h1 : Below wr.heap.size wr w1) (h2 : Own wr.heap.size 3 1 (dInt .i64) w1 va am) => (r11TiedG w.heap.size _ _ va _ am x w1 (HI.out.later h1 hz).ti (fun b hb => hb.2.2.2) (HI.out.among h2 haml hz) hwf (Nat.le_trans hz h1.size) (by omega)).mono fun e w2 ⟨vt2, k1, k2, k3, k4, k5⟩ => (show ∃ vt2, e = Ending.returned vt2 ∧ SeatI w.heap.size w w2 _ vt2 _ _ from ⟨vt2, k1, (HI.out.later h1 hz).tie k2 k3 k4 k5⟩)
      have hWi := fun w3 (h3 : RInts (From w.heap.size) w3 (.slice al ml cl) (seatSt had lot k).left) => r11Without _ _ (seatSt had lot k).left x w3 h3 (by omega)
      have hrl := fun w3 (h3 : Own w.heap.size 3 1 (dInt .i64) w3 (.slice al ml cl) (seatSt had lot k).left) => Own.rsl h3 (by omega)
      have hel : (seatSt had lot k).elected.length ≤ 1000000 := by rw [seat_elected]; omega
      have HAl := Lib.hid hAl; have HFi := Lib.hid hFi; have HTi := Lib.hid hTi; have HWi := Lib.hid hWi; have Hrl := Lib.hid hrl; have Hel := Lib.hid hel; have Hstep := Lib.hid hstep; have Hwf := Lib.hid hwf
      clear hAl hFi hTi hWi hrl hel hstep hwf hwin hwin2 hxb hx haml ham hal hne hleft hcand hcount hts hme hmt hml hN
      go_wp2_with (first
        | (go_at_call 122; refine HAl.out.mono ?_; rintro e w1 ⟨va, rfl, ho1, hb1⟩; have HO1 := Lib.hid ho1; have hz1 := hb1.size; clear ho1)
        | (go_at_call 38; refine (HFi.out _ _ hb1 HO1.out).mono ?_; rintro e w1' ⟨rfl, rfl⟩)
        | (go_at_call 123; refine (HTi.out _ _ hb1 HO1.out).mono ?_; rintro e w2 ⟨vt2, rfl, hi2⟩; have hz2 : w.heap.size ≤ w2.heap.size := hi2.below.size; have HI2 := Lib.hid hi2; clear hi2)
        | (go_at_call 124; refine (HWi.out _ (Hrl.out _ HI3.out.le)).mono ?_; rintro e w4 ⟨vl4, rfl, ho4, hb4⟩; have HI4 := Lib.hid (HI3.out.drop ho4 hb4 hz3); clear ho4 hb4)
        | (at_builtin; go_must (refine wpList_appJ w2 Tryz.infoInt rfl rfl Tryz.underlying25 w.heap.size HI2.out.el rfl rfl Hwf.out Hel.out hz2 ?_); intro a3 n3 c3 w3 ho3 hb3 hg3 hl3; have HI3 := Lib.hid (HI2.out.elect ho3 hb3 hg3 hl3); have hz3 : w.heap.size ≤ w3.heap.size := HI3.out.below.size; clear ho3 hb3 hg3 hl3))
      exact ⟨⟨k + 1, by omega, by go_num, Lib.hid (by rw [Hstep.out]; exact HI4.out)⟩, by simp [intOf]; omega⟩
    · obtain rfl : k = seats := by omega
      have hti := HI.out.ti
      have HT := Lib.hid (show GivesS (seatSt had lot k).elected (seatSt had lot k).ties w (Ending.returned (.tuple #[.slice ae me ce, .slice at_ mt ct])) wr from ⟨_, _, rfl, HI.out.el, HI.out.ti, hb⟩)
      clear hti HI hme hmt hml
      go_wp2
      go_ret2
      exact HT.out
end Go.Proofs.YtogngcbflhdadaaGreat

/- The contract of the reference's One. -/
namespace Go.Proofs.YtogngcbflhdadaaGreat
open Go Go.RowKit Go.Shelf

theorem same_alloc {S : Nat → Prop} {a b : World} {o : Obj} (h : Same S a b) (hs : a.heap.size = b.heap.size) : Same S (a.alloc o) (b.alloc o) := fun i hi hS => by
  rcases Nat.lt_or_ge i a.heap.size with hl | hl
  · rw [Below.heap_alloc a o i hl, Below.heap_alloc b o i (by omega)]; exact h i hl hS
  · have : i = a.heap.size := by rw [World.size_alloc] at hi; omega
    rw [this, box_new a o, hs, box_new b o]
theorem below_alloc2 {B : Nat} {a b : World} {o : Obj} (h : Below B a b) (hs : a.heap.size = b.heap.size) (hB : B ≤ a.heap.size) : Below B (a.alloc o) (b.alloc o) :=
  ⟨h.os, h.tape, h.output, by rw [World.size_alloc, World.size_alloc]; omega, fun i hi => by rw [Below.heap_alloc a o i (by omega), Below.heap_alloc b o i (by omega)]; exact h.block i hi⟩
theorem RSl.slice {α : Type} {S : Nat → Prop} {n : Nat} {dec : World → List Value → α → Prop} {w : World} {v : Value} {xs : List α} (h : RSl S n dec w v xs) : ∃ a m c, v = .slice a m c := by obtain ⟨a, c, h, -, -⟩ := RSl.shape h; exact ⟨a, _, c, h⟩
theorem Own.slice {α : Type} {base n : Nat} {e : TypeId} {dec : World → List Value → α → Prop} {w : World} {v : Value} {xs : List α} (h : Own base e n dec w v xs) : ∃ a m c, v = .slice a m c := by obtain ⟨a, c, h⟩ := Own.shape h; exact ⟨a, _, c, h⟩
/-- An outcome as a result, in memory of its own. -/
def GivesO (o : Outc) (w : World) (e : Ending) (w' : World) : Prop := ∃ v, e = .returned v ∧ VOutc (From w.heap.size) w' v o ∧ Below w.heap.size w w'
/-- Elected and ties as results, the members' memory of the call's own. -/
def GivesS2 (el : List Int) (ts : List Tie) (w : World) (e : Ending) (w' : World) : Prop :=
  ∃ ve vt, e = .returned (.tuple #[ve, vt]) ∧ RInts (From w.heap.size) w' ve el ∧ RTies (From w.heap.size) w' vt ts ∧ Below w.heap.size w w'
theorem r11Seats2 (S T : Nat → Prop) (u v : Value) (had lot : List Int) (seats : Nat) (w : World) (h : RInts S w u had) (hv : RInts T w v lot) (hl : LotOf lot had.length) (hh : had.length ≤ 1000) (hs : seats ≤ had.length) :
    Calls Tryz.prog 83 #[u, .int .i64 seats, v] w (GivesS2 (seatSt had lot seats).elected (seatSt had lot seats).ties w) :=
  (r11Seats S T u v had lot seats w h hv hl hh hs).mono fun e w' ⟨ve, vt, he, k1, k2, k3⟩ => ⟨ve, vt, he, Own.rsl k1 (by rw [seat_elected]; omega),
    RSl.mono (fun _ _ _ h => h) (fun _ h => h) (Own.rsl (Own.dmono (fun _ _ hd => dTie.mono (fun _ hb => hb.1) hd) k2) (by have := seat_ties had lot seats; omega)), k3⟩
set_option maxHeartbeats 2000000 in
set_option maxRecDepth 100000 in
theorem r11One (S T : Nat → Prop) (u v : Value) (had lot : List Int) (lost seats : Nat) (w : World) (h : RInts S w u had) (hv : RInts T w v lot) (hl : LotOf lot had.length) (hh : had.length ≤ 1000) (hs : seats ≤ had.length)
    (hn : ∀ x ∈ had, 0 ≤ x ∧ x < 9223372036854775808) (hlo : lost < 9223372036854775808) :
    Calls Tryz.prog 49 #[u, .int .i64 lost, .int .i64 seats, v] w (GivesO (oneO had lost seats lot) w) := by
  obtain ⟨Z, hZ⟩ : ∃ Z, Z = Obj.cells #[.slice none 0 0, .slice none 0 0, .slice none 0 0] 32 (0, 0) := ⟨_, rfl⟩
  have hb0 := below_new w Z
  have hgA : (w.alloc Z).heap[w.heap.size]? = some (.cells #[.slice none 0 0, .slice none 0 0, .slice none 0 0] 32 (0, 0)) := by rw [hZ]; exact box_new w _
  have hSe := r11Seats2 S T u v had lot seats (w.alloc Z) (h.same (.of_below hb0)) (hv.same (.of_below hb0)) hl hh hs
  have hWs := fun W (hW : Below w.heap.size w W) => r11Wholes S u had W (h.same (.of_below hW)) (by omega) hn
  have hW1 := fun W => r4Whole lost W hlo
  obtain ⟨xs, hxs⟩ : ∃ xs, Limb.lim lost = xs := ⟨_, rfl⟩
  have hwh : whole (lost : Int) = ⟨false, xs, [1]⟩ := by rw [whole_nat, hxs]
  have hW2 : ∀ W, Calls Tryz.prog 29 #[.int .i64 lost] W fun e w' => ∃ a c a' c', e = .returned (.agg #[.bool false, .slice a xs.length c, .slice a' 1 c']) ∧ RU (From W.heap.size) w' (.slice a xs.length c) xs ∧ RU (From W.heap.size) w' (.slice a' 1 c') [1] ∧ Below W.heap.size W w' := fun W => by rw [← hxs]; exact hW1 W
  obtain ⟨L, hL⟩ : ∃ L, xs.length = L := ⟨_, rfl⟩
  rw [hL] at hW2
  have hcell : ∀ w3, Below (w.alloc Z).heap.size (w.alloc Z) w3 → (∀ i, w3.cell? ⟨w.heap.size, i, none⟩ = (#[.slice none 0 0, .slice none 0 0, .slice none 0 0] : Array Value)[i]?) ∧ (∀ i, w3.frozen? ⟨w.heap.size, i, none⟩ = false) := fun w3 hW => by
    obtain ⟨-, g2, g3⟩ := own_box hW (by simp) hgA
    exact ⟨g2, g3⟩
  obtain ⟨el, hel⟩ : ∃ el, (seatSt had lot seats).elected = el := ⟨_, rfl⟩
  obtain ⟨ts, hts⟩ : ∃ ts, (seatSt had lot seats).ties = ts := ⟨_, rfl⟩
  have hone : oneO had lost seats lot = ⟨el, [⟨had.map whole, ⟨false, xs, [1]⟩, el, []⟩], ts⟩ := by rw [oneO, hel, hts, hwh]
  rw [hel, hts] at hSe
  have hfin : ∀ (w1 w2 w3 : World) ve vt vr a1 c1 a2 c2, Below (w.alloc Z).heap.size (w.alloc Z) w1 → RInts (From (w.alloc Z).heap.size) w1 ve el → RTies (From (w.alloc Z).heap.size) w1 vt ts → Below w1.heap.size w1 w2 → OwnX w1.heap.size 54 3 dRt w2 vr (had.map whole) → Below w2.heap.size w2 w3 →
      RU (From w2.heap.size) w3 (.slice a1 L c1) xs → RU (From w2.heap.size) w3 (.slice a2 1 c2) [1] → ∀ w', Same (fun b => b ≠ w.heap.size) (w3.alloc (.cells #[vr, .bool false, .slice a1 L c1, .slice a2 1 c2, ve, .slice none 0 0] 67)) w' → Below w.heap.size (w3.alloc (.cells #[vr, .bool false, .slice a1 L c1, .slice a2 1 c2, ve, .slice none 0 0] 67)) w' →
      GivesO (oneO had lost seats lot) w (.returned (.agg #[ve, .slice (some ⟨w3.heap.size, 0, none⟩) 1 1, vt])) w' := fun w1 w2 w3 ve vt vr a1 c1 a2 c2 b1 k1 k2 b2 k3 b3 k4 k5 w' hsm hbw => by
    obtain ⟨WB, hWB⟩ : ∃ WB, WB = w3.alloc (.cells #[vr, .bool false, .slice a1 L c1, .slice a2 1 c2, ve, .slice none 0 0] 67) := ⟨_, rfl⟩
    rw [← hWB] at hsm hbw
    have z0 : (w.alloc Z).heap.size = w.heap.size + 1 := by simp
    have z1 := b1.size
    have z2 := b2.size
    have z3 := b3.size
    have b4 : Below w3.heap.size w3 WB := by rw [hWB]; exact below_new _ _
    have hup : ∀ m, w.heap.size + 1 ≤ m → ∀ b, From m b → From (w.heap.size + 1) b := fun m hm b hb => Nat.le_trans hm hb
    have q1 : RInts (From (w.heap.size + 1)) WB ve el := (((k1.mono (hup _ (by omega))).same (.of_below b2)).same (.of_below b3)).same (.of_below b4)
    have q2 : RTies (From (w.heap.size + 1)) WB vt ts := (((k2.mono (hup _ (by omega))).same (.of_below b2)).same (.of_below b3)).same (.of_below b4)
    have q3 : RRts (From (w.heap.size + 1)) w2 vr (had.map whole) := RSl.mono (fun _ _ _ hd => dRt.mono (fun b hb => hup _ (by omega) b hb.1) hd) (fun b hb => hup _ (by omega) b hb.1) (OwnX.rsl famRt (by omega) k3 (by rw [List.length_map]; omega))
    have q4 : RRts (From (w.heap.size + 1)) WB vr (had.map whole) := (q3.same (.of_below b3)).same (.of_below b4)
    have q5 : RU (From (w.heap.size + 1)) WB (.slice a1 L c1) xs := (RU.mono (hup _ (by omega)) k4).same (.of_below b4)
    have q6 : RU (From (w.heap.size + 1)) WB (.slice a2 1 c2) [1] := (RU.mono (hup _ (by omega)) k5).same (.of_below b4)
    have hD : dRnd (From (w.heap.size + 1)) WB [vr, .bool false, .slice a1 L c1, .slice a2 1 c2, ve, .slice none 0 0] ⟨had.map whole, ⟨false, xs, [1]⟩, el, []⟩ := ⟨_, _, _, _, _, rfl, q4, q5, q6, q1, RSl.nil⟩
    have hR : RRnds (From (w.heap.size + 1)) WB (.slice (some ⟨w3.heap.size, 0, none⟩) 1 1) [⟨had.map whole, ⟨false, xs, [1]⟩, el, []⟩] :=
      RSl.mono (fun _ _ _ h => h) (fun b hb => Nat.le_trans (by omega) hb) (RSl.built (lo := w3.heap.size) (w' := WB) (cs := [vr, .bool false, .slice a1 L c1, .slice a2 1 c2, ve, .slice none 0 0]) (Nat.le_refl _) (by rw [hWB]; exact box_new w3 _) rfl hD)
    have hO : VOutc (From (w.heap.size + 1)) WB (.agg #[ve, .slice (some ⟨w3.heap.size, 0, none⟩) 1 1, vt]) (oneO had lost seats lot) := by rw [hone]; exact ⟨_, _, _, rfl, q1, hR, q2⟩
    refine ⟨_, rfl, VOutc.mono (fun b hb => Nat.le_trans (Nat.le_succ _) hb) (hO.same (hsm.mono fun b hb e => by have : w.heap.size + 1 ≤ b := hb; omega)), ?_⟩
    exact (((hb0.trans (b1.mono (by omega))).trans (b2.mono (by omega))).trans ((b3.trans (b4.mono z3)).mono (by omega))).trans hbw
  have hup2 : ∀ W, Below (w.alloc Z).heap.size (w.alloc Z) W → Below w.heap.size w W := fun W hW => hb0.trans (hW.mono (by simp))
  obtain ⟨a, cap, rfl, h1, h2⟩ := RSl.shape h
  obtain ⟨a2, cap2, rfl, h12, h22⟩ := RSl.shape hv
  obtain ⟨n, hn2⟩ : ∃ n, had.length = n := ⟨_, rfl⟩
  obtain ⟨nl, hnl⟩ : ∃ nl, lot.length = nl := ⟨_, rfl⟩
  rw [hn2] at hSe hWs
  rw [hnl] at hSe
  rw [hn2, hnl]
  have HSe := Lib.hid hSe; have HWs := Lib.hid hWs; have HW := Lib.hid hW2; have HC := Lib.hid hcell; have HF := Lib.hid hfin; have HU := Lib.hid hup2
  clear hSe hWs hW1 hW2 hcell hfin hup2 hone hwh hxs hL h hv hl hh hs hn hlo h1 h2 h12 h22 hn2 hnl hb0 hgA hel hts
  subst hZ
  go_enter Tryz.func49, Tryz.ntmps49
  go_wp2_with (first
    | (go_at_call 83; refine HSe.out.mono ?_; rintro e w1 ⟨ve, vt, rfl, k1, k2, b1⟩; obtain ⟨ae, me, ce, rfl⟩ := RSl.slice k1; obtain ⟨at_, mt, ct, rfl⟩ := RSl.slice k2; have K1 := Lib.hid k1; have K2 := Lib.hid k2; clear k1 k2)
    | (go_at_call 44; refine (HWs.out _ (HU.out _ b1)).mono ?_; rintro e w2 ⟨vr, rfl, k3, b2⟩; obtain ⟨ar, mr, cr, rfl⟩ := Own.slice k3; have b12 := b1.trans (b2.mono b1.size); have K3 := Lib.hid k3; clear k3)
    | (go_at_call 29; refine (HW.out _).mono ?_; rintro e w3 ⟨a5, c5, a6, c6, rfl, k4, k5, b3⟩; have b13 := b12.trans (b3.mono b12.size); have K4 := Lib.hid k4; have K5 := Lib.hid k5; obtain ⟨hc3, hf3⟩ := HC.out _ b13; have hlt3 : w.heap.size < w3.heap.size := (by have := b13.size; rw [World.size_alloc] at this; exact this); clear k4 k5))
  refine bodyPost_ret (v := .agg #[.slice ae me ce, .slice (some ⟨w3.heap.size, 0, none⟩) 1 1, .slice at_ mt ct]) (by simp [results, Tryz.results49, go_sem, hc3, hlt3]) rfl (HF.out w1 w2 w3 _ _ _ _ _ _ _ b1 K1.out K2.out b2 K3.out b3 K4.out K5.out _ ?_ ?_)
  · exact same_alloc ((((Same.refl _ w3).setCell (p := ⟨w.heap.size, 0, none⟩) (by simp) _).setCell (p := ⟨w.heap.size, 1, none⟩) (by simp) _).setCell (p := ⟨w.heap.size, 2, none⟩) (by simp) _) (by simp only [size_setCell'])
  · exact below_alloc2 ((((Below.refl _ w3).setCell (p := ⟨w.heap.size, 0, none⟩) (Nat.le_refl _) _).setCell (p := ⟨w.heap.size, 1, none⟩) (Nat.le_refl _) _).setCell (p := ⟨w.heap.size, 2, none⟩) (Nat.le_refl _) _) (by simp only [size_setCell']) (by omega)
end Go.Proofs.YtogngcbflhdadaaGreat

/- The contract of the reference's Prefers, at rankings; its plain law. -/
namespace Go.Proofs.YtogngcbflhdadaaGreat
open Go Go.RowKit Go.Shelf

/-- Does a ranking prefer x to y? -/
def prefB (marks : List Int) (x y : Int) : Bool := decide (0 ≤ idxB (fun m => decide (m = x)) marks) && (decide (idxB (fun m => decide (m = y)) marks < 0) || decide (idxB (fun m => decide (m = x)) marks < idxB (fun m => decide (m = y)) marks))
set_option maxHeartbeats 800000 in
set_option maxRecDepth 100000 in
theorem r08Prefers (S : Nat → Prop) (v : Value) (marks : List Int) (x y : Nat) (w : World) (h : VBlt S w v ⟨1, marks⟩) :
    Calls Tryz.prog 53 #[v, .int .i64 x, .int .i64 y] w fun e w' => e = .returned (.bool (prefB marks x y)) ∧ Below w.heap.size w w' := by
  have h0 := h
  obtain ⟨cc, d, rfl, hB⟩ := h
  obtain ⟨a, cap, rfl, rfl, hl, -, -, hI⟩ := hB.open
  simp only at *
  obtain ⟨W1, hW1⟩ : ∃ W1, W1 = w.alloc (.cells #[.int .u8 1, .slice a marks.length cap] 58) := ⟨_, rfl⟩
  have hb0 : Below w.heap.size w W1 := by rw [hW1]; exact below_new w _
  have hbx : W1.heap[w.heap.size]? = some (.cells #[.int .u8 1, .slice a marks.length cap] 58 (0, 0)) := by rw [hW1]; exact box_new w _
  have hI1 := hI.same (.of_below hb0)
  have hP := fun (n : Int) p => place08 S _ marks n (ext W1 p) (hI1.same (.of_below (below_ext W1 p)))
  obtain ⟨I, hIe⟩ : ∃ I, idxB (fun m => decide (m = (x : Int))) marks = I := ⟨_, rfl⟩
  obtain ⟨J, hJe⟩ : ∃ J, idxB (fun m => decide (m = (y : Int))) marks = J := ⟨_, rfl⟩
  have hPx := hP x
  have hPy := hP y
  rw [hIe] at hPx
  rw [hJe] at hPy
  have hpb : prefB marks x y = (decide (0 ≤ I) && (decide (J < 0) || decide (I < J))) := by rw [prefB, hIe, hJe]
  rw [hpb]
  obtain ⟨-, bc, -⟩ := own_box (Below.refl _ W1) (size_of_box hbx) hbx
  have c0 : W1.cell? ⟨w.heap.size, 0, none⟩ = some (.int .u8 1) := bc 0
  have c1 : W1.cell? ⟨w.heap.size, 1, none⟩ = some (.slice a marks.length cap) := bc 1
  obtain ⟨L, hL⟩ : ∃ L, marks.length = L := ⟨_, rfl⟩
  rw [hL] at hPx hPy c1 hW1 ⊢
  have e1 := fun p => cell_ext (w := W1) c1 p
  have HPx := Lib.hid hPx; have HPy := Lib.hid hPy
  have hx0 : ¬ (x : Int) < 0 := by omega
  have hy0 : ¬ (y : Int) < 0 := by omega
  have hways : (I < 0 ∧ (decide (0 ≤ I) && (decide (J < 0) || decide (I < J))) = false) ∨ (0 ≤ I ∧ J < 0 ∧ (decide (0 ≤ I) && (decide (J < 0) || decide (I < J))) = true) ∨ (0 ≤ I ∧ ¬ J < 0 ∧ I < J ∧ (decide (0 ≤ I) && (decide (J < 0) || decide (I < J))) = true) ∨ (0 ≤ I ∧ ¬ J < 0 ∧ ¬ I < J ∧ (decide (0 ≤ I) && (decide (J < 0) || decide (I < J))) = false) := by
    by_cases h1 : I < 0
    · exact .inl ⟨h1, by rw [decide_eq_false (by omega), Bool.false_and]⟩
    · by_cases h2 : J < 0
      · exact .inr (.inl ⟨by omega, h2, by rw [decide_eq_true (by omega : 0 ≤ I), decide_eq_true h2]; rfl⟩)
      · by_cases h3 : I < J
        · exact .inr (.inr (.inl ⟨by omega, h2, h3, by rw [decide_eq_true (by omega : 0 ≤ I), decide_eq_true h3]; simp⟩))
        · exact .inr (.inr (.inr ⟨by omega, h2, h3, by rw [decide_eq_true (by omega : 0 ≤ I), decide_eq_false h2, decide_eq_false h3]; rfl⟩))
  clear hPx hPy hP hIe hJe hpb bc hI1 hI hB h0 hl
  obtain ⟨R, hR⟩ : ∃ R, (decide (0 ≤ I) && (decide (J < 0) || decide (I < J))) = R := ⟨_, rfl⟩
  rw [hR] at hways ⊢
  clear hR
  rcases hways with ⟨h1, rfl⟩ | ⟨h1, h2, rfl⟩ | ⟨h1, h2, h3, rfl⟩ | ⟨h1, h2, h3, rfl⟩
  all_goals
    go_enter Tryz.func53, Tryz.ntmps53
    go_wp2
    rw [← hW1]
    clear hW1
    refine wp_region_ext (by kernel_rfl) (by kernel_rfl) ?_
    repeat (go_big_quiet_step ((first | (go_at_call_of 84 (x); have hh := HPx.out; exact calls_ext' (v := .int .i64 I) (hh _)) | (go_at_call_of 84 (y); have hh := HPy.out; exact calls_ext' (v := .int .i64 J) (hh _)))))
    refine wpQuiet_nil ?_
    intro w2 hw'
    have hb12 : Below W1.heap.size W1 w2 := by obtain ⟨p, rfl⟩ := hw'; exact below_ext W1 p
    have d0 : w2.cell? ⟨w.heap.size, 0, none⟩ = some (.int .u8 1) := (hb12.cell (p := ⟨_, _, none⟩) (lt_of_cell c0)).trans c0
    have hb2 := hb0.trans (hb12.mono hb0.size)
    clear hw' e1
    go_wp2
    go_ret
    first
    | exact ⟨rfl, hb2⟩
    | exact ⟨ret_bool (a := (decide (J < 0) || decide (I < J))) (by simp; omega), hb2⟩
end Go.Proofs.YtogngcbflhdadaaGreat

/- Borda's points by the reference's counting. No program. -/
namespace Go.Proofs.YtogngcbflhdadaaGreat

/-- How many of the first j candidates x is preferred to. -/
def cntP (marks : List Int) (x : Int) (j : Nat) : Int := (((List.range j).filter fun y : Nat => prefB marks x (y : Int)).length : Nat)
theorem cntP_zero (marks : List Int) (x : Int) : cntP marks x 0 = 0 := rfl
theorem cntP_succ (marks : List Int) (x : Int) (j : Nat) : cntP marks x (j + 1) = cntP marks x j + if prefB marks x (j : Int) then 1 else 0 := by
  rw [cntP, cntP, List.range_succ, List.filter_append, List.length_append]
  cases h : prefB marks x (j : Int) <;> simp [h]
theorem idxB_idx : ∀ {l : List Int} {x : Int}, x ∈ l → idxB (fun m => decide (m = x)) l = (l.idxOf x : Nat)
  | [], _, h => absurd h List.not_mem_nil
  | a :: l, x, h => by
    by_cases e : a = x
    · subst e
      simp [idxB]
    · have hx : x ∈ l := by rcases List.mem_cons.1 h with r | r; exact absurd r.symm e; exact r
      have ih := idxB_idx hx
      have e2 : (a == x) = false := by simpa using e
      rw [List.idxOf_cons, e2]
      simp only [cond_false, idxB, decide_eq_false e, Bool.false_eq_true, if_false, ih]
      rw [if_neg (by omega)]
      omega
theorem idxB_out {l : List Int} {x : Int} (h : x ∉ l) : idxB (fun m => decide (m = x)) l = -1 := idxB_none (by
  rw [List.any_eq_false]
  intro y hy
  simp only [decide_eq_true_eq]
  rintro rfl
  exact h hy)
theorem mem_take_idx {l : List Int} (hn : l.Nodup) {y : Int} {i : Nat} (hi : i < l.length) : y ∈ l.take (i + 1) ↔ y ∈ l ∧ l.idxOf y ≤ i := by
  constructor
  · intro h
    obtain ⟨k, hk, rfl⟩ := List.mem_take_iff_getElem.1 h
    have hkl : k < l.length := by omega
    refine ⟨List.getElem_mem hkl, ?_⟩
    rw [hn.idxOf_getElem k hkl]
    omega
  · rintro ⟨h1, h2⟩
    have hlt := List.idxOf_lt_length_of_mem h1
    refine List.mem_take_iff_getElem.2 ⟨l.idxOf y, by omega, List.getElem_idxOf hlt⟩
theorem length_split : ∀ (l : List Nat) (p : Nat → Bool), (l.filter p).length + (l.filter fun y => !p y).length = l.length
  | [], _ => rfl
  | a :: l, p => by
    have := length_split l p
    cases h : p a <;> simp [h] <;> omega
theorem perm_length_le {a b : List Int} (h : a.Nodup) (hs : ∀ x ∈ a, x ∈ b) : a.length ≤ b.length := by
  induction a generalizing b with
  | nil => simp
  | cons x a ih =>
    obtain ⟨h1, h2⟩ := List.nodup_cons.1 h
    have hx := hs x (by simp)
    have := ih h2 (b := b.erase x) fun y hy => (List.mem_erase_of_ne (by rintro rfl; exact h1 hy)).2 (hs y (List.mem_cons_of_mem _ hy))
    rw [List.length_erase_of_mem hx] at this
    have := List.length_pos_of_mem hx
    simp only [List.length_cons]
    omega
theorem cntP_all {marks : List Int} {C x : Nat} (hn : marks.Nodup) (hin : ∀ m ∈ marks, 0 ≤ m ∧ m < C) : cntP marks (x : Int) C = giveL 3 marks C x := by
  have hgive : giveL 3 marks C x = if marks.contains (x : Int) then (C : Int) - 1 - (marks.idxOf (x : Int) : Nat) else 0 := rfl
  rw [hgive]
  by_cases hx : (x : Int) ∈ marks
  · rw [if_pos (List.contains_iff_mem.2 hx)]
    have hlt := List.idxOf_lt_length_of_mem hx
    obtain ⟨i, hi⟩ : ∃ i, marks.idxOf (x : Int) = i := ⟨_, rfl⟩
    have e : (List.range C).filter (fun y : Nat => prefB marks x (y : Int)) = (List.range C).filter (fun y : Nat => !decide ((y : Int) ∈ marks.take (i + 1))) := by
      apply List.filter_congr
      intro y _
      rw [prefB, idxB_idx hx, hi]
      rw [hi] at hlt
      by_cases hy : (y : Int) ∈ marks
      · rw [idxB_idx hy, decide_eq_true (by omega : (0 : Int) ≤ (i : Nat)), decide_eq_false (by omega : ¬ ((marks.idxOf (y : Int) : Nat) : Int) < 0), Bool.true_and, Bool.false_or]
        rw [Bool.eq_iff_iff]
        simp only [decide_eq_true_eq, Bool.not_eq_true', decide_eq_false_iff_not]
        rw [mem_take_idx hn hlt]
        constructor
        · rintro h ⟨_, h2⟩; omega
        · intro h
          have : ¬ marks.idxOf (y : Int) ≤ i := fun h2 => h ⟨hy, h2⟩
          omega
      · rw [idxB_out hy, decide_eq_true (by omega : (0 : Int) ≤ (i : Nat)), Bool.true_and]
        have : (y : Int) ∉ marks.take (i + 1) := fun h => hy (List.mem_of_mem_take h)
        simp [this]
    have hperm : List.Perm ((rngI C).filter fun y => decide (y ∈ marks.take (i + 1))) (marks.take (i + 1)) := by
      rw [hi] at hlt
      have hnt : (marks.take (i + 1)).Nodup := hn.sublist (List.take_sublist _ _)
      have hnf : ((rngI C).filter fun y => decide (y ∈ marks.take (i + 1))).Nodup := (rngI_nodup C).filter _
      refine (perm_of_sub hnt (fun y hy => ?_) ?_).symm
      · exact List.mem_filter.2 ⟨mem_rngI.2 (hin y (List.mem_of_mem_take hy)), by simpa using hy⟩
      · exact (perm_length_le hnf fun y hy => by simpa using (List.mem_filter.1 hy).2)
    have hcount : ((List.range C).filter fun y : Nat => decide ((y : Int) ∈ marks.take (i + 1))).length = i + 1 := by
      have h1 := hperm.length_eq
      rw [hi] at hlt
      rw [List.length_take, Nat.min_eq_left (by omega)] at h1
      refine Eq.trans ?_ h1
      rw [rngI, List.filter_map, List.length_map]
      rfl
    have htot := length_split (List.range C) (fun y : Nat => decide ((y : Int) ∈ marks.take (i + 1)))
    rw [List.length_range] at htot
    rw [cntP, e]
    omega
  · rw [if_neg (by rw [List.contains_iff_mem]; exact hx)]
    have e : (List.range C).filter (fun y : Nat => prefB marks x (y : Int)) = [] := List.filter_eq_nil_iff.2 fun y _ => by
      rw [prefB, idxB_out hx]; simp
    rw [cntP, e]; rfl
end Go.Proofs.YtogngcbflhdadaaGreat

/- Borda's array, candidate by candidate and rival by rival. No program. -/
namespace Go.Proofs.YtogngcbflhdadaaGreat

def bordF (h : Nat → Int) (m : List Int) (many : Int) (C x j : Nat) : Nat → Int := fun z => h z + (if z < x then giveL 3 m C z * many else if z = x then cntP m (z : Int) j * many else 0)
theorem bord_start (h : Nat → Int) (m : List Int) (many : Int) (C : Nat) : fl C (bordF h m many C 0 0) = fl C h := by
  apply fl_congr
  intro z _
  rw [bordF, if_neg (by omega), cntP_zero, Int.zero_mul]
  split <;> omega
theorem bord_get {h : Nat → Int} {m : List Int} {many : Int} {C x j : Nat} (hx : x < (fl C (bordF h m many C x j)).length) : (fl C (bordF h m many C x j))[x] = h x + cntP m (x : Int) j * many := by
  rw [fl_get, bordF, if_neg (by omega), if_pos rfl]
theorem bord_step {h : Nat → Int} {m : List Int} {many : Int} {C x j : Nat} (hp : prefB m (x : Int) (j : Int) = true) :
    fl C (bordF h m many C x (j + 1)) = (fl C (bordF h m many C x j)).set x (h x + cntP m (x : Int) j * many + many) := by
  rw [fl_set]
  apply fl_congr
  intro z _
  simp only [bordF]
  by_cases h1 : z = x
  · subst h1
    rw [if_neg (by omega), if_pos rfl, if_pos rfl, cntP_succ, hp, if_pos rfl, Int.add_mul]; omega
  · by_cases h2 : z < x
    · rw [if_pos h2, if_neg h1, if_pos h2]
    · rw [if_neg h2, if_neg h1, if_neg h1, if_neg h2, if_neg h1]
theorem bord_skip {h : Nat → Int} {m : List Int} {many : Int} {C x j : Nat} (hp : prefB m (x : Int) (j : Int) = false) : fl C (bordF h m many C x (j + 1)) = fl C (bordF h m many C x j) := by
  apply fl_congr
  intro z _
  simp only [bordF]
  by_cases h1 : z = x
  · subst h1
    rw [cntP_succ, hp]; simp
  · rw [if_neg h1, if_neg h1]
theorem bord_next {h : Nat → Int} {m : List Int} {many : Int} {C x : Nat} (hn : m.Nodup) (hin : ∀ k ∈ m, 0 ≤ k ∧ k < C) : fl C (bordF h m many C x C) = fl C (bordF h m many C (x + 1) 0) := by
  apply fl_congr
  intro z _
  simp only [bordF, cntP_zero, Int.zero_mul]
  by_cases h1 : z < x
  · rw [if_pos h1, if_pos (by omega)]
  · by_cases h2 : z = x
    · subst h2
      rw [if_neg h1, if_pos rfl, if_pos (by omega), cntP_all hn hin]
    · rw [if_neg h1, if_neg h2, if_neg (by omega)]; split <;> rfl
theorem bord_end {rows : List Row} {C i : Nat} (hi : i < rows.length) : fl C (bordF (hadF 3 (rows.take i) C) rows[i].marks rows[i].many C C 0) = fl C (hadF 3 (rows.take (i + 1)) C) := by
  apply fl_congr
  intro z hz
  rw [bordF, if_pos hz, hadF_take hi, show lostL 3 rows[i].marks = false from rfl]
  simp
theorem rank_marks {kind : Int} {marks : List Int} {C : Nat} (ck : kind = kindL 3) (h : fineB ⟨kind, marks⟩ (C : Int) = true) : marks.Nodup ∧ (∀ m ∈ marks, 0 ≤ m ∧ m < C) ∧ marks.length ≤ C := by
  have hk : kind = 1 := ck
  rw [fineB] at h
  simp only at h
  rw [if_neg (show ¬ kind = 3 by omega), if_neg (show ¬ kind = 2 by omega), if_pos hk] at h
  simp only [Bool.and_eq_true] at h
  have hn : marks.Nodup := by
    rw [List.nodup_iff_pairwise_ne, List.pairwise_iff_getElem]
    intro i j hi hj hij
    exact onceB_get h.2 i j hij hj
  have hin : ∀ m ∈ marks, 0 ≤ m ∧ m < C := fun m hm => by
    obtain ⟨i, hi, rfl⟩ := List.getElem_of_mem hm
    exact inB_get h.1 i hi
  refine ⟨hn, hin, ?_⟩
  have := perm_length_le (b := rngI C) hn fun m hm => mem_rngI.2 (hin m hm)
  rwa [rngI_length] at this
theorem give3_bound {kind : Int} {marks : List Int} {C x : Nat} (ck : kind = kindL 3) (h : fineB ⟨kind, marks⟩ (C : Int) = true) (hC : C ≤ 10) : 0 ≤ giveL 3 marks C x ∧ giveL 3 marks C x ≤ 10 := by
  obtain ⟨hn, hin, -⟩ := rank_marks ck h
  rw [← cntP_all hn hin, cntP]
  have := List.length_filter_le (fun y : Nat => prefB marks (x : Int) (y : Int)) (List.range C)
  rw [List.length_range] at this
  omega
theorem cntP_bound (m : List Int) (x : Int) (j : Nat) : 0 ≤ cntP m x j ∧ cntP m x j ≤ j := by
  have := List.length_filter_le (fun y : Nat => prefB m x (y : Int)) (List.range j)
  rw [List.length_range] at this
  rw [cntP]; omega
end Go.Proofs.YtogngcbflhdadaaGreat

/- Contracts of the reference's profiles: New, the ballot's Check, Ahead, Sums, Check. Printed by gen09.py. -/
namespace Go.Proofs.YtogngcbflhdadaaGreat
open Go Go.RowKit Go.Shelf

theorem r09New_bad (c kind : Int) (w : World) (hbad : newOk c kind = false) :
    Calls Tryz.prog 117 #[.int .i64 c, .int .u8 kind] w fun e w' => e = .returned (.tuple #[.agg #[.int .i64 0, .int .u8 0, .slice none 0 0], .int .i64 2]) ∧ Below w.heap.size w w' := by
  have hbad' : ¬ (1 ≤ c ∧ c ≤ 10 ∧ 1 ≤ kind ∧ kind ≤ 3) := by simpa [newOk] using hbad
  have hways : c < 1 ∨ (¬ c < 1 ∧ 10 < c) ∨ (¬ c < 1 ∧ ¬ 10 < c ∧ kind < 1) ∨ (¬ c < 1 ∧ ¬ 10 < c ∧ ¬ kind < 1 ∧ 3 < kind) := by omega
  clear hbad hbad'
  rcases hways with h1 | ⟨h1, h2⟩ | ⟨h1, h2, h3⟩ | ⟨h1, h2, h3, h4⟩
  all_goals
    go_enter Tryz.func117, Tryz.ntmps117
    go_wp2
    exact bodyPost_ret (v := .tuple #[.agg #[.int .i64 0, .int .u8 0, .slice none 0 0], .int .i64 2]) (by simp [results, Tryz.results117, go_sem]) rfl ⟨rfl, below_new _ _⟩
theorem r09New_ok (c kind : Int) (w : World) (hok : newOk c kind = true) :
    Calls Tryz.prog 117 #[.int .i64 c, .int .u8 kind] w fun e w' => e = .returned (.tuple #[.agg #[.int .i64 c, .int .u8 kind, .slice none 0 0], .int .i64 0]) ∧ Below w.heap.size w w' := by
  obtain ⟨h1, h2, h3, h4⟩ : ¬ c < 1 ∧ ¬ 10 < c ∧ ¬ kind < 1 ∧ ¬ 3 < kind := by have := newOk_iff.1 hok; omega
  clear hok
  go_enter Tryz.func117, Tryz.ntmps117
  go_wp2
  exact bodyPost_ret (v := .tuple #[.agg #[.int .i64 c, .int .u8 kind, .slice none 0 0], .int .i64 0]) (by simp [results, Tryz.results117, go_sem]) rfl ⟨rfl, below_new _ _⟩
theorem r09New (c kind : Int) (w : World) : Calls Tryz.prog 117 #[.int .i64 c, .int .u8 kind] w fun e w' => e = .returned (.tuple #[.agg #[.int .i64 (newP c kind).cands, .int .u8 (newP c kind).kind, .slice none 0 0], .int .i64 (newI c kind)]) ∧ Below w.heap.size w w' := by
  unfold newP newI
  cases h : newOk c kind
  · exact r09New_bad c kind w h
  · exact r09New_ok c kind w h
theorem r08Check (S : Nat → Prop) (v : Value) (x : Blt) (c : Int) (w : World) (h : VBlt S w v x) :
    Calls Tryz.prog 118 #[v, .int .i64 c] w fun e w' => e = .returned (.int .i64 (checkB x c)) ∧ Below w.heap.size w w' := by
  have h0 := h
  obtain ⟨cc, d, rfl, hB⟩ := h
  obtain ⟨a, cap, rfl, rfl, hl, -, -, -⟩ := hB.open
  have hb0 : Below w.heap.size w (w.alloc (.cells #[.int .u8 x.kind, .slice a x.marks.length cap] 58)) := below_new w _
  have hF := fineRef S _ x c _ (h0.same (.of_below hb0))
  by_cases hin : 1 ≤ c ∧ c < 11
  · obtain ⟨k1, k2⟩ : ¬ c < 1 ∧ ¬ 10 < c := by omega
    have hck : checkB x c = if fineB x c then 0 else 8 := by rw [checkB, if_pos hin]
    cases hf : fineB x c
    · rw [hf] at hF hck
      have HF := Lib.hid hF; have Hck := Lib.hid hck
      clear hF hck hf hin h0 hB
      go_enter Tryz.func118, Tryz.ntmps118
      go_wp2_with (go_at_call 155; refine HF.out.mono ?_; rintro e w1 ⟨rfl, hb1⟩)
      go_ret
      exact ⟨ret_int Hck.out.symm, hb0.trans (hb1.mono (by simp))⟩
    · rw [hf] at hF hck
      have HF := Lib.hid hF; have Hck := Lib.hid hck
      clear hF hck hf hin h0 hB
      go_enter Tryz.func118, Tryz.ntmps118
      go_wp2_with (go_at_call 155; refine HF.out.mono ?_; rintro e w1 ⟨rfl, hb1⟩)
      go_ret
      exact ⟨ret_int Hck.out.symm, hb0.trans (hb1.mono (by simp))⟩
  · have hck : checkB x c = 2 := by rw [checkB, if_neg hin]
    have Hck := Lib.hid hck
    have hways : c < 1 ∨ (¬ c < 1 ∧ 10 < c) := by omega
    clear hck hin h0 hB hF
    rcases hways with h1 | ⟨h1, h2⟩
    all_goals
      go_enter Tryz.func118, Tryz.ntmps118
      go_wp2
      go_ret
      exact ⟨ret_int Hck.out.symm, hb0⟩
set_option maxHeartbeats 1000000 in
theorem r08Ahead (S T : Nat → Prop) (u v : Value) (xs ys : List Int) (w : World) (hx : RInts S w u xs) (hy : RInts T w v ys) :
    Calls Tryz.prog 119 #[u, v] w fun e w' => e = .returned (.bool (decide (cmpL xs ys < 0))) ∧ Below w.heap.size w w' := by
  obtain ⟨a1, cap1, rfl, hx1, hx2⟩ := RSl.shape hx
  obtain ⟨a2, cap2, rfl, hy1, hy2⟩ := RSl.shape hy
  go_enter Tryz.func119, Tryz.ntmps119
  go_wp2
  go_loopw [5] (fun i wr => ∃ k : Nat, k ≤ xs.length ∧ k ≤ ys.length ∧ i = .int .i64 k ∧ Hid (cmpL xs ys = cmpL (xs.drop k) (ys.drop k)) ∧ Below w.heap.size w wr) (fun i _ => xs.length - (intOf i).toNat)
  case atStart => exact ⟨0, Nat.zero_le _, Nat.zero_le _, rfl, Lib.hid (by simp), Below.refl _ _⟩
  case round =>
    obtain ⟨k, hk, hk2, rfl, hg, hb⟩ := hrel
    by_cases hlt : k < xs.length
    · by_cases hlt2 : k < ys.length
      · obtain ⟨b, off, c, rfl, hS, hbw, hc, hdx⟩ := RSl.at1 (hx.same (.of_below hb)) k hlt
        obtain ⟨rfl, -⟩ := hdx.open
        obtain ⟨b2, off2, c2, rfl, hS2, hbw2, hc2, hdy⟩ := RSl.at1 (hy.same (.of_below hb)) k hlt2
        obtain ⟨rfl, -⟩ := hdy.open
        have hst := cmpL_at hlt hlt2
        rw [← hg.out] at hst
        obtain ⟨x, hxe⟩ : ∃ x, xs[k] = x := ⟨_, rfl⟩
        obtain ⟨y, hye⟩ : ∃ y, ys[k] = y := ⟨_, rfl⟩
        rw [hxe] at hc hst
        rw [hye] at hc2 hst
        obtain ⟨W1, hW1⟩ : ∃ W1, W1 = wr := ⟨_, rfl⟩
        have hb1 : Below w.heap.size w W1 := by rw [hW1]; exact hb
        have hzW := hb1.size
        rw [← hW1] at hc hc2
        have e1 := fun p => cell_ext (w := W1) hc p
        have e2 := fun p => cell_ext (w := W1) hc2 p
        by_cases hne : x = y
        · have hq : (x != y) = false := by simpa using hne
          rw [if_neg (by omega), if_neg (by omega)] at hst
          have Hst := Lib.hid hst
          clear hst hne hxe hye hb
          go_wp2
          rw [← hW1]
          clear hW1
          refine wp_region_ext (by kernel_rfl) (by kernel_rfl) ?_
          repeat (go_big_quiet_step (fail))
          refine wpQuiet_nil ?_
          intro w2 hw'
          have hb12 : Below W1.heap.size W1 w2 := by obtain ⟨p, rfl⟩ := hw'; exact below_ext W1 p
          clear hw' e1 e2
          go_wp2
          exact ⟨⟨k + 1, by omega, by omega, by go_num, Hst, hb1.trans (hb12.mono hzW)⟩, by simp [intOf]; omega⟩
        · have hq : (x != y) = true := by simpa using hne
          by_cases hl : x < y
          · rw [if_pos hl] at hst
            have Hst := Lib.hid hst
            clear hst hne hxe hye hb
            go_wp2
            rw [← hW1]
            clear hW1
            refine wp_region_ext (by kernel_rfl) (by kernel_rfl) ?_
            repeat (go_big_quiet_step (fail))
            refine wpQuiet_nil ?_
            intro w2 hw'
            have hb12 : Below W1.heap.size W1 w2 := by obtain ⟨p, rfl⟩ := hw'; exact below_ext W1 p
            clear hw' 
            have f1 := (hb12.cell (p := ⟨_, _, none⟩) (lt_of_cell hc)).trans hc
            have f2 := (hb12.cell (p := ⟨_, _, none⟩) (lt_of_cell hc2)).trans hc2
            have hb2 := hb1.trans (hb12.mono hzW)
            have e3 := fun p => cell_ext (w := w2) f1 p
            have e4 := fun p => cell_ext (w := w2) f2 p
            clear e1 e2
            go_wp2
            refine wp_region_ext (by kernel_rfl) (by kernel_rfl) ?_
            repeat (go_big_quiet_step (fail))
            refine wpQuiet_nil ?_
            intro w3 hw'
            have hb23 : Below w2.heap.size w2 w3 := by obtain ⟨p, rfl⟩ := hw'; exact below_ext w2 p
            clear hw' e3 e4
            go_wp2
            go_ret
            exact ⟨ret_bool (by rw [Hst.out]; rfl), hb2.trans (hb23.mono hb2.size)⟩
          · rw [if_neg hl, if_pos (by omega)] at hst
            have Hst := Lib.hid hst
            clear hst hne hxe hye hb
            go_wp2
            rw [← hW1]
            clear hW1
            refine wp_region_ext (by kernel_rfl) (by kernel_rfl) ?_
            repeat (go_big_quiet_step (fail))
            refine wpQuiet_nil ?_
            intro w2 hw'
            have hb12 : Below W1.heap.size W1 w2 := by obtain ⟨p, rfl⟩ := hw'; exact below_ext W1 p
            clear hw' 
            have f1 := (hb12.cell (p := ⟨_, _, none⟩) (lt_of_cell hc)).trans hc
            have f2 := (hb12.cell (p := ⟨_, _, none⟩) (lt_of_cell hc2)).trans hc2
            have hb2 := hb1.trans (hb12.mono hzW)
            have e3 := fun p => cell_ext (w := w2) f1 p
            have e4 := fun p => cell_ext (w := w2) f2 p
            clear e1 e2
            go_wp2
            refine wp_region_ext (by kernel_rfl) (by kernel_rfl) ?_
            repeat (go_big_quiet_step (fail))
            refine wpQuiet_nil ?_
            intro w3 hw'
            have hb23 : Below w2.heap.size w2 w3 := by obtain ⟨p, rfl⟩ := hw'; exact below_ext w2 p
            clear hw' e3 e4
            go_wp2
            go_ret
            exact ⟨ret_bool (by rw [Hst.out, decide_eq_false (Int.not_lt.2 hl)]; rfl), hb2.trans (hb23.mono hb2.size)⟩
      · have hst := hg.out.trans (cmpL_over hlt (by omega))
        have Hst := Lib.hid hst
        have hl : ¬ ((xs.length : Nat) : Int) < ((ys.length : Nat) : Int) := by omega
        clear hst
        go_wp2
        go_ret
        exact ⟨ret_bool (by rw [Hst.out]; rfl), hb⟩
    · have hk' : k = xs.length := by omega
      have hst := hg.out.trans (cmpL_end (by omega))
      by_cases h1 : k < ys.length
      · rw [if_pos h1] at hst
        have Hst := Lib.hid hst
        subst hk'
        have hl : ((xs.length : Nat) : Int) < ((ys.length : Nat) : Int) := by omega
        clear hst
        go_wp2
        go_ret
        exact ⟨ret_bool (by rw [Hst.out]; rfl), hb⟩
      · rw [if_neg h1] at hst
        have Hst := Lib.hid hst
        subst hk'
        have hl : ¬ ((xs.length : Nat) : Int) < ((ys.length : Nat) : Int) := by omega
        clear hst
        go_wp2
        go_ret
        exact ⟨ret_bool (by rw [Hst.out]; rfl), hb⟩
/-- The reference's sum of all counts. -/
def sumsR (l : List Row) : Int := if 1000000 < sumR l then 1000001 else sumR l
theorem sumR_take_le {l : List Row} (h : ∀ r ∈ l, 0 ≤ r.many) (k : Nat) : sumR (l.take k) ≤ sumR l ∧ 0 ≤ sumR (l.take k) := by
  have e : sumR l = sumR (l.take k) + sumR (l.drop k) := by rw [sumR, sumR, sumR, ← List.sum_append, ← List.map_append, List.take_append_drop]
  have hn : ∀ m : List Row, (∀ r ∈ m, 0 ≤ r.many) → 0 ≤ sumR m := fun m => by
    induction m with
    | nil => intro _; simp [sumR]
    | cons a m ih =>
      intro hm
      have := ih fun r hr => hm r (List.mem_cons_of_mem _ hr)
      have := hm a (by simp)
      simp only [sumR, List.map_cons, List.sum_cons] at *
      omega
  have := hn (l.drop k) fun r hr => h r (List.mem_of_mem_drop hr)
  have := hn (l.take k) fun r hr => h r (List.mem_of_mem_take hr)
  omega
theorem sumR_snoc {l : List Row} {k : Nat} (hk : k < l.length) : sumR (l.take (k + 1)) = sumR (l.take k) + l[k].many := by
  rw [List.take_succ_eq_append_getElem hk, sumR, sumR, List.map_append, List.sum_append]; simp
set_option maxHeartbeats 1000000 in
theorem r09Sums (S : Nat → Prop) (v : Value) (l : List Row) (w : World) (h : RRows S w v l) (hp : ∀ r ∈ l, 0 ≤ r.many) :
    Calls Tryz.prog 120 #[v] w fun e w' => e = .returned (.int .i64 (sumsR l)) ∧ w = w' := by
  have hT := sumR_take_le hp
  obtain ⟨a, cap, rfl, h1, h2⟩ := RSl.shape h
  have HT := Lib.hid hT; have Hp := Lib.hid hp
  clear hT hp
  go_enter Tryz.func120, Tryz.ntmps120
  go_wp2
  go_loop [3, 4] (fun n i => ∃ (k : Nat) (N : Int), k ≤ l.length ∧ i = .int .i64 k ∧ n = .int .i64 N ∧ Hid (N = sumR (l.take k)) ∧ 0 ≤ N ∧ N ≤ 1000000) (fun _ i => l.length - (intOf i).toNat)
  case atStart => exact ⟨0, 0, Nat.zero_le _, rfl, rfl, Lib.hid (by simp [sumR]), by omega, by omega⟩
  case round =>
    obtain ⟨k, N, hk, rfl, rfl, hN, hN0, hN1⟩ := hrel
    by_cases hlt : k < l.length
    · obtain ⟨b, off, c, d, rfl, hS, hbw, hc, hd, hx⟩ := RSl.at2 h k hlt
      obtain ⟨ax, capx, rfl, rfl, -, hwf, -⟩ := hx.open
      have hst := sumR_snoc hlt
      have hle := (HT.out (k + 1)).1
      have hm0 := Hp.out _ (List.getElem_mem hlt)
      obtain ⟨M, hM⟩ : ∃ M, l[k].many = M := ⟨_, rfl⟩
      rw [hM] at hd hst hm0
      rw [← hN.out] at hst
      by_cases hgt : 1000000 - N < M
      · have hr : sumsR l = 1000001 := by rw [sumsR, if_pos (by omega)]
        have Hr := Lib.hid hr
        clear hst hle hr hM hwf hx hc
        go_wp2
        go_ret
        exact ⟨ret_int Hr.out.symm, rfl⟩
      · have Hst := Lib.hid hst
        have hb1 : 0 ≤ N + M := by omega
        have hb2 : N + M ≤ 1000000 := by omega
        clear hst hle hM hwf hx hc
        go_wp2
        go_round
        case rel => exact ⟨k + 1, N + M, by omega, by go_num, rfl, Lib.hid Hst.out.symm, hb1, hb2⟩
        case measure => simp [intOf]; omega
    · obtain rfl : k = l.length := by omega
      have hr : sumsR l = N := by
        have := hN.out
        rw [List.take_length] at this
        rw [sumsR, if_neg (by omega), this]
      have Hr := Lib.hid hr
      clear hr
      go_wp2
      go_ret
      exact ⟨ret_int Hr.out.symm, rfl⟩
end Go.Proofs.YtogngcbflhdadaaGreat

/- The contract of the reference's profile Check. Printed by gen09b.py. -/
namespace Go.Proofs.YtogngcbflhdadaaGreat
open Go Go.RowKit Go.Shelf

set_option maxHeartbeats 4000000 in
set_option maxRecDepth 100000 in
theorem r09Check (S : Nat → Prop) (v : Value) (p : Prof) (w : World) (h : VProf S w v p) :
    Calls Tryz.prog 82 #[v] w fun e w' => e = .returned (.int .i64 (chkP p)) ∧ Below w.heap.size w w' := by
  obtain ⟨a, cap, rfl, hk0, hk1, hR⟩ := h
  obtain ⟨cands, kind, rows⟩ := p
  simp only at hk0 hk1 hR ⊢
  have hb0 := below_new w (.cells #[.int .i64 cands, .int .u8 kind, .slice a rows.length cap] 24)
  have hbx := box_new w (.cells #[.int .i64 cands, .int .u8 kind, .slice a rows.length cap] 24)
  obtain ⟨a', cap', hae, h1, h2⟩ := RSl.shape hR
  by_cases h64 : 64 < rows.length
  · have hr : chkP ⟨cands, kind, rows⟩ = 9 := if_pos h64
    have k64 : ((rows.length : Nat) : Int) > 64 := by omega
    have Hr := Lib.hid hr
    clear hr h1 h2 hae hR
    go_enter Tryz.func82, Tryz.ntmps82
    go_wp2
    go_ret
    exact ⟨ret_int Hr.out.symm, hb0⟩
  · have k64 : ¬ ((rows.length : Nat) : Int) > 64 := by omega
    have hN := fun W => r09New cands kind W
    by_cases hn : newOk cands kind = true
    · have hr : chkP ⟨cands, kind, rows⟩ = if fineP ⟨cands, kind, rows⟩ then (if 1000000 < sumR rows then 4 else 0) else 8 := by
        rw [chkP, if_neg h64]; simp only [hn, Bool.and_true]
      have hN2 := fun W => (hN W).mono fun e w' (hh : _ ∧ _) => (show e = .returned (.tuple #[.agg #[.int .i64 cands, .int .u8 kind, .slice none 0 0], .int .i64 0]) ∧ Below W.heap.size W w' from by simpa [newP, newI, hn] using hh)
      have hH := fun W (hW : Below w.heap.size w W) => hR.same (.of_below hW)
      have hbad : (∀ k, k < rows.length → okRow rows cands kind k = false → chkP ⟨cands, kind, rows⟩ = 8) := fun k hk hf => by
        rw [hr, if_neg]
        intro ha
        have := List.all_eq_true.1 ha k (List.mem_range.2 hk)
        simp only at this
        rw [hf] at this; cases this
      have HN := Lib.hid hN2; have HH := Lib.hid hH; have HBad := Lib.hid hbad; have Hr := Lib.hid hr
      clear hN hN2 hH hbad hr h1 h2 hae hR hn
      obtain ⟨n, hn⟩ : ∃ n, rows.length = n := ⟨_, rfl⟩
      rw [hn] at HH k64 hb0 hbx ⊢
      have Hn := Lib.hid hn
      clear h64 hn
      go_enter Tryz.func82, Tryz.ntmps82
      go_wp2_with (go_at_call 117; refine (HN.out _).mono ?_; rintro e w1 ⟨rfl, hbN⟩; have hq1 : Below w.heap.size w w1 := hb0.trans (hbN.mono (by simp)); obtain ⟨g1, -, -⟩ := own_box hbN (by simp) hbx; have hz1 := hq1.size; have G1 := Lib.hid g1; clear g1 hbN)
      go_loopw [6] (fun i wr => ∃ k : Nat, k ≤ n ∧ i = .int .i64 k ∧ Hid ((List.range k).all (okRow rows cands kind) = true) ∧ Below w1.heap.size w1 wr) (fun i _ => n - (intOf i).toNat)
      case atStart => exact ⟨0, Nat.zero_le _, rfl, Lib.hid rfl, below_new _ _⟩
      case round =>
        obtain ⟨k, hk, rfl, hg, hbr⟩ := hrel
        obtain ⟨W1, hW1⟩ : ∃ W1, W1 = wr := ⟨_, rfl⟩
        have hb1r : Below w1.heap.size w1 W1 := by rw [hW1]; exact hbr
        have hb1 : Below w.heap.size w W1 := hq1.trans (hb1r.mono hz1)
        have hzW := hb1.size
        clear hbr
        have gW := (hb1r.block _ (size_of_box G1.out)).trans G1.out
        obtain ⟨-, bc, -⟩ := own_box (Below.refl _ W1) (size_of_box gW) gW
        have c0 : W1.cell? ⟨w.heap.size, 0, none⟩ = some (.int .i64 cands) := bc 0
        have c1 : W1.cell? ⟨w.heap.size, 1, none⟩ = some (.int .u8 kind) := bc 1
        have e0 := fun p => cell_ext (w := W1) c0 p
        have e1 := fun p => cell_ext (w := W1) c1 p
        clear bc gW
        by_cases hlt : k < n
        · have hlr : k < rows.length := by rw [Hn.out]; exact hlt
          have hok := okRow_at (rows := rows) (c := cands) (kind := kind) hlr
          obtain ⟨b, off, cc, dd, rfl, hS, hbw, hc, hd, hx⟩ := RSl.at2 (HH.out W1 hb1) k hlr
          obtain ⟨ax, capx, rfl, rfl, hlx, hwf, hI⟩ := hx.open
          have hbad := HBad.out k hlr
          obtain ⟨many, hmany⟩ : ∃ m, rows[k].many = m := ⟨_, rfl⟩
          obtain ⟨marks, hmarks⟩ : ∃ m, rows[k].marks = m := ⟨_, rfl⟩
          rw [hmany] at hd hok
          rw [hmarks] at hc hI hok
          have e2 := fun p => cell_ext (w := W1) hc p
          have e3 := fun p => cell_ext (w := W1) hd p
          have hK := fun p => r08Check S (.agg #[.int .u8 kind, .slice ax marks.length capx]) ⟨kind, marks⟩ cands (ext W1 p) ⟨_, _, rfl, _, rfl, hk0, hk1, hI.same (.of_below (below_ext W1 p))⟩
          obtain ⟨q, hq⟩ : ∃ q, checkB ⟨kind, marks⟩ cands = q := ⟨_, rfl⟩
          rw [hq] at hK hok
          obtain ⟨L, hL⟩ : ∃ L, marks.length = L := ⟨_, rfl⟩
          rw [hL] at hK e2 hI
          have Hbad := Lib.hid hbad
          rcases Nat.eq_zero_or_pos k with hk00 | hkp
          · subst hk00
            simp only [Nat.zero_mul, Nat.add_zero] at e2 e3
            have e4 := e2
            have hok2 : okRow rows cands kind 0 = (decide (0 < many) && decide (q = 0)) := by rw [hok]; simp
            clear hok hq hmany hmarks hx hwf hlx hbad hL hI hc hd
            have HK := Lib.hid hK
            clear hK
            by_cases hm : many < 1
            · have Hok := Lib.hid (show okRow rows cands kind 0 = false by rw [hok2, decide_eq_false (by omega)]; rfl)
              clear hok2
              go_wp2
              rw [← hW1]
              clear hW1
              refine wp_region_ext (by kernel_rfl) (by kernel_rfl) ?_
              repeat (go_big_quiet_step ((fail)))
              refine wpQuiet_nil ?_
              intro w2 hw'
              have hb12 : Below W1.heap.size W1 w2 := by obtain ⟨p, rfl⟩ := hw'; exact below_ext W1 p
              clear hw' e0 e1 e2 e3 e4
              go_wp2
              go_ret
              exact ⟨ret_int (Hbad.out Hok.out).symm, hb1.trans (hb12.mono hzW)⟩
            · have hmd : decide (many < 1) = false := decide_eq_false hm
              by_cases hq0 : q = 0
              · subst hq0
                have Hok := Lib.hid (show okRow rows cands kind 0 = true by rw [hok2, decide_eq_true (by omega)]; rfl)
                clear hok2
                go_wp2
                rw [← hW1]
                clear hW1
                refine wp_region_ext (by kernel_rfl) (by kernel_rfl) ?_
                repeat (go_big_quiet_step ((go_at_call 118; have hh := HK.out; exact calls_ext (v := .int .i64 0) (hh _))))
                refine wpQuiet_nil ?_
                intro w2 hw'
                have hb12 : Below W1.heap.size W1 w2 := by obtain ⟨p, rfl⟩ := hw'; exact below_ext W1 p
                clear hw' e0 e1 e2 e3 e4
                go_wp2
                exact ⟨⟨0 + 1, by omega, by go_num, Lib.hid (by rw [List.range_succ, List.all_append, hg.out]; simpa using Hok.out), hb1r.trans (hb12.mono hb1r.size)⟩, by simp [intOf]; omega⟩
              · have hq1' : (q != 0) = true := by simpa using hq0
                have Hok := Lib.hid (show okRow rows cands kind 0 = false by rw [hok2, decide_eq_false hq0, Bool.and_false])
                clear hok2 hq0
                go_wp2
                rw [← hW1]
                clear hW1
                refine wp_region_ext (by kernel_rfl) (by kernel_rfl) ?_
                repeat (go_big_quiet_step ((go_at_call 118; have hh := HK.out; exact calls_ext (v := .int .i64 q) (hh _))))
                refine wpQuiet_nil ?_
                intro w2 hw'
                have hb12 : Below W1.heap.size W1 w2 := by obtain ⟨p, rfl⟩ := hw'; exact below_ext W1 p
                clear hw' e0 e1 e2 e3 e4
                go_wp2
                go_ret
                exact ⟨ret_int (Hbad.out Hok.out).symm, hb1.trans (hb12.mono hzW)⟩
          · have hkm : k - 1 < rows.length := by omega
            obtain ⟨b', off', cc', dd', eb, hS', hbw', hc', hd', hx'⟩ := RSl.at2 (HH.out W1 hb1) (k - 1) hkm
            simp only [Option.some.injEq, Addr.mk.injEq, and_true] at eb
            obtain ⟨rfl, rfl⟩ := eb
            obtain ⟨ay, capy, rfl, -, hly, -, hI'⟩ := hx'.open
            have hgd : rows.getD (k - 1) zR = rows[k - 1] := by rw [List.getD_eq_getElem?_getD, List.getElem?_eq_getElem hkm]; rfl
            rw [hgd] at hok
            obtain ⟨prev, hprev⟩ : ∃ m, rows[k - 1].marks = m := ⟨_, rfl⟩
            rw [hprev] at hc' hI' hok
            have e4 := fun p => cell_ext (w := W1) hc' p
            have hA := fun p => r08Ahead S S _ _ prev marks (ext W1 p) (hI'.same (.of_below (below_ext W1 p))) ((hL ▸ hI : RInts S W1 (.slice ax marks.length capx) marks).same (.of_below (below_ext W1 p)))
            rw [hL] at hA
            obtain ⟨ah, hah⟩ : ∃ ah, decide (cmpL prev marks < 0) = ah := ⟨_, rfl⟩
            rw [hah] at hA hok
            obtain ⟨L', hL'⟩ : ∃ L', prev.length = L' := ⟨_, rfl⟩
            rw [hL'] at hA e4
            have hok2 : okRow rows cands kind k = (ah && (decide (0 < many) && decide (q = 0))) := by rw [hok, decide_eq_false (by omega : ¬ k = 0), Bool.false_or]
            clear hok hq hmany hmarks hx hwf hlx hbad hL hI hc hd hx' hly hI' hc' hd' hgd hprev hah hL'
            have HK := Lib.hid hK; have HA := Lib.hid hA
            clear hK hA
            have i1 : ((k : Int) - 1).toNat = k - 1 := by omega
            have i2 : (0 : Int) ≤ (k : Int) - 1 := by omega
            have i3 : (k : Int) - 1 < n := by omega
            have i4 : IntKind.i64.wrap ((k : Int) - 1) = (k : Int) - 1 := by rw [IntKind.wrap_i64]; omega
            have i5 : (k : Int) > 0 := by omega
            by_cases hm : many < 1
            · have Hok := Lib.hid (show okRow rows cands kind k = false by rw [hok2, decide_eq_false (by omega : ¬ 0 < many), Bool.false_and, Bool.and_false])
              clear hok2
              go_wp2
              rw [← hW1]
              clear hW1
              refine wp_region_ext (by kernel_rfl) (by kernel_rfl) ?_
              repeat (go_big_quiet_step ((fail)))
              refine wpQuiet_nil ?_
              intro w2 hw'
              have hb12 : Below W1.heap.size W1 w2 := by obtain ⟨p, rfl⟩ := hw'; exact below_ext W1 p
              clear hw' e0 e1 e2 e3 e4
              go_wp2
              go_ret
              exact ⟨ret_int (Hbad.out Hok.out).symm, hb1.trans (hb12.mono hzW)⟩
            · have hmd : decide (many < 1) = false := decide_eq_false hm
              have i6 : decide ((k : Int) > 0) = true := decide_eq_true i5
              by_cases hq0 : q = 0
              · subst hq0
                cases ah
                · have Hok := Lib.hid (show okRow rows cands kind k = false by rw [hok2, Bool.false_and])
                  clear hok2
                  go_wp2
                  rw [← hW1]
                  clear hW1
                  refine wp_region_ext (by kernel_rfl) (by kernel_rfl) ?_
                  repeat (go_big_quiet_step ((first | (go_at_call 118; have hh := HK.out; exact calls_ext (v := .int .i64 0) (hh _)) | (go_at_call 119; have hh := HA.out; exact calls_ext (v := .bool false) (hh _)))))
                  refine wpQuiet_nil ?_
                  intro w2 hw'
                  have hb12 : Below W1.heap.size W1 w2 := by obtain ⟨p, rfl⟩ := hw'; exact below_ext W1 p
                  clear hw' e0 e1 e2 e3 e4
                  go_wp2
                  go_ret
                  exact ⟨ret_int (Hbad.out Hok.out).symm, hb1.trans (hb12.mono hzW)⟩
                · have Hok := Lib.hid (show okRow rows cands kind k = true by rw [hok2, decide_eq_true (by omega : 0 < many)]; rfl)
                  clear hok2
                  go_wp2
                  rw [← hW1]
                  clear hW1
                  refine wp_region_ext (by kernel_rfl) (by kernel_rfl) ?_
                  repeat (go_big_quiet_step ((first | (go_at_call 118; have hh := HK.out; exact calls_ext (v := .int .i64 0) (hh _)) | (go_at_call 119; have hh := HA.out; exact calls_ext (v := .bool true) (hh _)))))
                  refine wpQuiet_nil ?_
                  intro w2 hw'
                  have hb12 : Below W1.heap.size W1 w2 := by obtain ⟨p, rfl⟩ := hw'; exact below_ext W1 p
                  clear hw' e0 e1 e2 e3 e4
                  go_wp2
                  exact ⟨⟨k + 1, by omega, by go_num, Lib.hid (by rw [List.range_succ, List.all_append, hg.out]; simpa using Hok.out), hb1r.trans (hb12.mono hb1r.size)⟩, by simp [intOf]; omega⟩
              · have hq1' : (q != 0) = true := by simpa using hq0
                have Hok := Lib.hid (show okRow rows cands kind k = false by rw [hok2, decide_eq_false hq0, Bool.and_false, Bool.and_false])
                clear hok2 hq0
                go_wp2
                rw [← hW1]
                clear hW1
                refine wp_region_ext (by kernel_rfl) (by kernel_rfl) ?_
                repeat (go_big_quiet_step ((go_at_call 118; have hh := HK.out; exact calls_ext (v := .int .i64 q) (hh _))))
                refine wpQuiet_nil ?_
                intro w2 hw'
                have hb12 : Below W1.heap.size W1 w2 := by obtain ⟨p, rfl⟩ := hw'; exact below_ext W1 p
                clear hw' e0 e1 e2 e3 e4
                go_wp2
                go_ret
                exact ⟨ret_int (Hbad.out Hok.out).symm, hb1.trans (hb12.mono hzW)⟩
        · obtain rfl : k = n := by omega
          have hfine : fineP ⟨cands, kind, rows⟩ = true := by rw [fineP]; simp only; rw [Hn.out]; exact hg.out
          have hpos : ∀ r ∈ rows, 0 ≤ r.many := fun r hr => by
            obtain ⟨i, hi, rfl⟩ := List.getElem_of_mem hr
            have := List.all_eq_true.1 hfine i (List.mem_range.2 hi)
            simp only at this
            rw [okRow_at hi] at this
            simp only [Bool.and_eq_true, decide_eq_true_eq] at this
            omega
          have hS := r09Sums S _ rows W1 (HH.out W1 hb1) hpos
          have hr := Hr.out
          rw [if_pos hfine] at hr
          rw [hW1] at hS
          clear e0 e1 c0 c1 hfine hpos
          by_cases hs : 1000000 < sumR rows
          · rw [if_pos hs] at hr
            rw [sumsR, if_pos hs] at hS
            have Hr2 := Lib.hid hr; have HS := Lib.hid hS
            clear hr hS hs
            subst hW1
            go_wp2_with (go_at_call 120; refine HS.out.mono ?_; rintro e w3 ⟨rfl, rfl⟩)
            go_ret
            exact ⟨ret_int Hr2.out.symm, hb1⟩
          · rw [if_neg hs] at hr
            rw [sumsR, if_neg hs] at hS
            obtain ⟨s, hse⟩ : ∃ s, sumR rows = s := ⟨_, rfl⟩
            rw [hse] at hS hs
            have Hr2 := Lib.hid hr; have HS := Lib.hid hS
            clear hr hS hse
            subst hW1
            go_wp2_with (go_at_call 120; refine HS.out.mono ?_; rintro e w3 ⟨rfl, rfl⟩)
            go_ret
            exact ⟨ret_int Hr2.out.symm, hb1⟩
    · have hn' : newOk cands kind = false := by simpa using hn
      have hr : chkP ⟨cands, kind, rows⟩ = 8 := by rw [chkP, if_neg h64]; simp only [hn', Bool.and_false]; rfl
      have hN2 := fun W => (hN W).mono fun e w' (hh : _ ∧ _) => (show e = .returned (.tuple #[.agg #[.int .i64 0, .int .u8 0, .slice none 0 0], .int .i64 2]) ∧ Below W.heap.size W w' from by simpa [newP, newI, hn', noP] using hh)
      have HN := Lib.hid hN2; have Hr := Lib.hid hr
      clear hN hN2 hr h1 h2 hae hR hn hn' h64
      go_enter Tryz.func82, Tryz.ntmps82
      go_wp2_with (go_at_call 117; refine (HN.out _).mono ?_; rintro e w1 ⟨rfl, hb1⟩; have hq1 : Below w.heap.size w w1 := hb0.trans (hb1.mono (by simp)))
      go_ret
      exact ⟨ret_int Hr.out.symm, hq1.alloc hq1.size _⟩
end Go.Proofs.YtogngcbflhdadaaGreat

/- The contract of the reference's May. -/
namespace Go.Proofs.YtogngcbflhdadaaGreat
open Go Go.RowKit Go.Shelf

theorem countI_r {p : Prof} {kind seats most : Int} {lot : List Int} (h : chkP p = 0) : countI p kind seats most lot = if p.kind ≠ kind then 8 else if seats < 1 ∨ most < seats ∨ 10 < seats ∨ lotR lot p.cands = false then 2 else 0 := by
  have hc : 1 ≤ p.cands ∧ p.cands ≤ 10 := by
    unfold chkP at h
    split at h
    · omega
    · split at h
      · rename_i h2
        simp only [Bool.and_eq_true] at h2
        have := newOk_iff.1 h2.2
        omega
      · omega
  rw [countI, lotR_eq hc]
  by_cases hk : p.kind = kind
  · rw [if_neg (show ¬ (chkP p ≠ 0 ∨ p.kind ≠ kind) by simp [h, hk]), if_neg (show ¬ p.kind ≠ kind by simp [hk])]
  · rw [if_pos (show chkP p ≠ 0 ∨ p.kind ≠ kind from .inr hk), if_pos hk]
set_option maxHeartbeats 2000000 in
set_option maxRecDepth 100000 in
theorem r11May (S T : Nat → Prop) (u v : Value) (p : Prof) (kind seats most : Int) (lot : List Int) (w : World) (h : VProf S w u p) (hv : RInts T w v lot) :
    Calls Tryz.prog 48 #[u, .int .u8 kind, .int .i64 seats, .int .i64 most, v] w fun e w' => e = .returned (.int .i64 (countI p kind seats most lot)) ∧ Below w.heap.size w w' := by
  have h0 := h
  obtain ⟨a, cap, rfl, -, -, -⟩ := h
  obtain ⟨a2, cap2, rfl, -, -⟩ := RSl.shape hv
  have hb0 := below_new w (.cells #[.int .i64 p.cands, .int .u8 p.kind, .slice a p.rows.length cap] 24)
  have hbx := box_new w (.cells #[.int .i64 p.cands, .int .u8 p.kind, .slice a p.rows.length cap] 24)
  have hC := r09Check S _ p _ (h0.same (.of_below hb0))
  have hL := fun W (hW : Below w.heap.size w W) => r11Lot T _ lot p.cands W (hv.same (.of_below hW))
  obtain ⟨q, hq⟩ : ∃ q, chkP p = q := ⟨_, rfl⟩
  obtain ⟨n, hn⟩ : ∃ n, p.rows.length = n := ⟨_, rfl⟩
  obtain ⟨nl, hnl⟩ : ∃ nl, lot.length = nl := ⟨_, rfl⟩
  obtain ⟨cc, hcc⟩ : ∃ c, p.cands = c := ⟨_, rfl⟩
  obtain ⟨kk, hkk⟩ : ∃ c, p.kind = c := ⟨_, rfl⟩
  have hcr := fun hc => countI_r (p := p) (kind := kind) (seats := seats) (most := most) (lot := lot) hc
  have hc8 : q ≠ 0 → countI p kind seats most lot = 8 := fun h => by rw [countI, if_pos (.inl (by rw [hq]; exact h))]
  rw [hq, hcc, hkk] at hcr
  rw [hq] at hC
  rw [hcc, hkk, hn] at hC hb0 hbx
  rw [hnl, hcc] at hL
  rw [hcc, hkk, hn, hnl]
  obtain ⟨lb, hlb⟩ : ∃ lb, lotR lot cc = lb := ⟨_, rfl⟩
  rw [hlb] at hL hcr
  obtain ⟨I, hI⟩ : ∃ I, countI p kind seats most lot = I := ⟨_, rfl⟩
  rw [hI] at hcr hc8 ⊢
  have HC := Lib.hid hC; have HL := Lib.hid hL; have Hbx := Lib.hid hbx
  clear hC hL hbx h0 hv hn hnl hcc hkk hlb hI hq
  by_cases hq : q = 0
  · subst hq
    replace hcr := hcr rfl
    clear hc8
    by_cases hk : kk = kind
    · rw [if_neg (by simp [hk])] at hcr
      have hkq : (kk != kind) = false := by simpa using hk
      have hways : (seats < 1 ∧ I = 2) ∨ (¬ seats < 1 ∧ most < seats ∧ I = 2) ∨ (¬ seats < 1 ∧ ¬ most < seats ∧ 10 < seats ∧ I = 2) ∨ (¬ seats < 1 ∧ ¬ most < seats ∧ ¬ 10 < seats ∧ ((lb = false ∧ I = 2) ∨ (lb = true ∧ I = 0))) := by
        by_cases h1 : seats < 1
        · exact .inl ⟨h1, by rw [hcr, if_pos (.inl h1)]⟩
        · by_cases h2 : most < seats
          · exact .inr (.inl ⟨h1, h2, by rw [hcr, if_pos (.inr (.inl h2))]⟩)
          · by_cases h3 : 10 < seats
            · exact .inr (.inr (.inl ⟨h1, h2, h3, by rw [hcr, if_pos (.inr (.inr (.inl h3)))]⟩))
            · refine .inr (.inr (.inr ⟨h1, h2, h3, ?_⟩))
              cases lb
              · exact .inl ⟨rfl, by rw [hcr, if_pos (.inr (.inr (.inr rfl)))]⟩
              · exact .inr ⟨rfl, by rw [hcr, if_neg (by simp [h1, h2, h3])]⟩
      clear hcr hk
      rcases hways with ⟨h1, rfl⟩ | ⟨h1, h2, rfl⟩ | ⟨h1, h2, h3, rfl⟩ | ⟨h1, h2, h3, ⟨rfl, rfl⟩ | ⟨rfl, rfl⟩⟩
      all_goals
        go_enter Tryz.func48, Tryz.ntmps48
        go_wp2_with (first
          | (go_at_call 82; refine HC.out.mono ?_; rintro e w1 ⟨rfl, hbN⟩; have hq1 := hb0.trans (hbN.mono (by simp)); obtain ⟨-, gc, -⟩ := own_box hbN (by simp) Hbx.out; have gc0 := gc 0; have gc1 := gc 1; clear gc)
          | (go_at_call 33; refine (HL.out _ hq1).mono ?_; rintro e w2 ⟨rfl, rfl⟩))
        go_ret
        exact ⟨rfl, hq1⟩
    · rw [if_pos hk] at hcr
      subst hcr
      have hkq : (kk != kind) = true := by simpa using hk
      clear hk
      go_enter Tryz.func48, Tryz.ntmps48
      go_wp2_with (go_at_call 82; refine HC.out.mono ?_; rintro e w1 ⟨rfl, hbN⟩; have hq1 := hb0.trans (hbN.mono (by simp)); obtain ⟨-, gc, -⟩ := own_box hbN (by simp) Hbx.out; have gc0 := gc 0; have gc1 := gc 1; clear gc)
      go_ret
      exact ⟨rfl, hq1⟩
  · have hI := hc8 hq
    subst hI
    have hqb : (q != 0) = true := by simpa using hq
    clear hcr hc8 hq
    go_enter Tryz.func48, Tryz.ntmps48
    go_wp2_with (go_at_call 82; refine HC.out.mono ?_; rintro e w1 ⟨rfl, hbN⟩; have hq1 := hb0.trans (hbN.mono (by simp)))
    go_ret
    exact ⟨rfl, hq1⟩
end Go.Proofs.YtogngcbflhdadaaGreat

/- The contract of the reference's Plurality. Printed by gen11.py. -/
namespace Go.Proofs.YtogngcbflhdadaaGreat
open Go Go.RowKit Go.Shelf

/-- What a rule of one round gives. -/
def GivesSI (rule : Nat) (p : Prof) (seats : Int) (lot : List Int) (w : World) (e : Ending) (w' : World) : Prop := ∃ v, e = .returned (.tuple #[v, .int .i64 (singleI rule p seats lot)]) ∧ VOutc (From w.heap.size) w' v (singleV rule p seats lot) ∧ Below w.heap.size w w'
set_option maxHeartbeats 4000000 in
set_option maxRecDepth 100000 in
theorem r11Plurality_bad (S T : Nat → Prop) (u v : Value) (p : Prof) (seats : Int) (lot : List Int) (w : World) (h : VProf S w u p) (hv : RInts T w v lot) (h0 : singleI 0 p seats lot ≠ 0) :
    Calls Tryz.prog 15 #[u, .int .i64 seats, v] w (GivesSI 0 p seats lot w) := by
  have h1 := h
  obtain ⟨a, cap, rfl, -, -, -⟩ := h
  obtain ⟨a2, cap2, rfl, -, -⟩ := RSl.shape hv
  obtain ⟨cands, kind, rows⟩ := p
  simp only at *
  obtain ⟨n, hn⟩ : ∃ n, rows.length = n := ⟨_, rfl⟩
  obtain ⟨nl, hnl⟩ : ∃ n, lot.length = n := ⟨_, rfl⟩
  rw [hn] at h1 ⊢
  rw [hnl] at hv ⊢
  have hb0 : Below w.heap.size w ((w.alloc (.cells #[.int .i64 cands, .int .u8 kind, .slice a n cap] 24)).alloc (.cells #[.slice none 0 0, .slice none 0 0, .slice none 0 0] 32)) := ((Below.refl _ _).alloc (Nat.le_refl _) _).alloc (by simp) _
  have hbx : ((w.alloc (.cells #[.int .i64 cands, .int .u8 kind, .slice a n cap] 24)).alloc (.cells #[.slice none 0 0, .slice none 0 0, .slice none 0 0] 32)).heap[w.heap.size + 1]? = some (.cells #[.slice none 0 0, .slice none 0 0, .slice none 0 0] 32 (0, 0)) := by
    have := box_new (w.alloc (.cells #[.int .i64 cands, .int .u8 kind, .slice a n cap] 24)) (.cells #[.slice none 0 0, .slice none 0 0, .slice none 0 0] 32)
    rwa [World.size_alloc] at this
  have hM := r11May S T _ _ ⟨cands, kind, rows⟩ 2 seats cands lot _ (h1.same (.of_below hb0)) (hv.same (.of_below hb0))
  have hS : singleI 0 ⟨cands, kind, rows⟩ seats lot = countI ⟨cands, kind, rows⟩ 2 seats cands lot := rfl
  obtain ⟨I, hI⟩ : ∃ I, singleI 0 ⟨cands, kind, rows⟩ seats lot = I := ⟨_, rfl⟩
  rw [← hS, hI] at hM
  rw [hI] at h0
  have hV : singleV 0 ⟨cands, kind, rows⟩ seats lot = noO := by rw [singleV, hI, if_neg h0]
  have hG : ∀ w', Below w.heap.size w w' → GivesSI 0 ⟨cands, kind, rows⟩ seats lot w (.returned (.tuple #[.agg #[.slice none 0 0, .slice none 0 0, .slice none 0 0], .int .i64 I])) w' := fun w' hb => ⟨_, by rw [hI], by rw [hV]; exact ⟨_, _, _, rfl, RSl.nil, RSl.nil, RSl.nil⟩, hb⟩
  have hq : (I != 0) = true := by simpa using h0
  have HM := Lib.hid hM; have HG := Lib.hid hG
  clear hM hG hV hS hI h0 h1 hv hn hnl
  go_enter Tryz.func15, Tryz.ntmps15
  go_wp2_with (go_at_call 48; refine HM.out.mono ?_; rintro e w1 ⟨rfl, hb1⟩; have hq1 := hb0.trans (hb1.mono (by simp; omega)); obtain ⟨g1, gc, gf⟩ := own_box hb1 (by simp) hbx; have hlt1 : w.heap.size + 1 < w1.heap.size := size_of_box g1; have Hq1 := Lib.hid hq1)
  refine bodyPost_ret (v := .tuple #[.agg #[.slice none 0 0, .slice none 0 0, .slice none 0 0], .int .i64 I]) (by simp [results, Tryz.results15, go_sem, gc]) rfl (HG.out _ ?_)
  exact ((Hq1.out.setCell (p := ⟨w.heap.size + 1, 0, none⟩) (by simp) _).setCell (p := ⟨w.heap.size + 1, 1, none⟩) (by simp) _).setCell (p := ⟨w.heap.size + 1, 2, none⟩) (by simp) _
set_option maxHeartbeats 1000000 in
set_option maxRecDepth 100000 in
theorem r11Plurality_ok (S T : Nat → Prop) (u v : Value) (p : Prof) (seats : Int) (lot : List Int) (w : World) (h : VProf S w u p) (hv : RInts T w v lot) (h0 : singleI 0 p seats lot = 0) :
    Calls Tryz.prog 15 #[u, .int .i64 seats, v] w (GivesSI 0 p seats lot w) := by
  have hC := counted h0
  have h1 := h
  obtain ⟨a, cap, rfl, -, -, hR⟩ := h
  obtain ⟨a2, cap2, rfl, -, -⟩ := RSl.shape hv
  obtain ⟨cands, kind, rows⟩ := p
  obtain ⟨ck, ⟨cc1, cc2⟩, ⟨cs1, cs2⟩, cl, cm, cf, cr, csum⟩ := hC
  simp only at *
  obtain ⟨n, hn⟩ : ∃ n, rows.length = n := ⟨_, rfl⟩
  obtain ⟨nl, hnl⟩ : ∃ n, lot.length = n := ⟨_, rfl⟩
  obtain ⟨C, hCn⟩ : ∃ C : Nat, cands = (C : Int) := ⟨cands.toNat, by omega⟩
  obtain ⟨sn, hsn⟩ : ∃ s : Nat, seats = (s : Int) := ⟨seats.toNat, by omega⟩
  subst hCn hsn
  rw [Int.toNat_natCast] at cl
  rw [hn] at h1 hR ⊢
  rw [hnl] at hv ⊢
  have hb0 : Below w.heap.size w ((w.alloc (.cells #[.int .i64 (C : Int), .int .u8 kind, .slice a n cap] 24)).alloc (.cells #[.slice none 0 0, .slice none 0 0, .slice none 0 0] 32)) := ((Below.refl _ _).alloc (Nat.le_refl _) _).alloc (by simp) _
  have hbp : ((w.alloc (.cells #[.int .i64 (C : Int), .int .u8 kind, .slice a n cap] 24)).alloc (.cells #[.slice none 0 0, .slice none 0 0, .slice none 0 0] 32)).heap[w.heap.size]? = some (.cells #[.int .i64 (C : Int), .int .u8 kind, .slice a n cap] 24 (0, 0)) := box_old _ (box_new w _)
  have hbx : ((w.alloc (.cells #[.int .i64 (C : Int), .int .u8 kind, .slice a n cap] 24)).alloc (.cells #[.slice none 0 0, .slice none 0 0, .slice none 0 0] 32)).heap[w.heap.size + 1]? = some (.cells #[.slice none 0 0, .slice none 0 0, .slice none 0 0] 32 (0, 0)) := by
    have := box_new (w.alloc (.cells #[.int .i64 (C : Int), .int .u8 kind, .slice a n cap] 24)) (.cells #[.slice none 0 0, .slice none 0 0, .slice none 0 0] 32)
    rwa [World.size_alloc] at this
  have hM := r11May S T _ _ ⟨(C : Int), kind, rows⟩ 2 sn C lot _ (h1.same (.of_below hb0)) (hv.same (.of_below hb0))
  have hS : singleI 0 ⟨(C : Int), kind, rows⟩ sn lot = countI ⟨(C : Int), kind, rows⟩ 2 sn C lot := rfl
  rw [← hS, h0] at hM
  have hV : singleV 0 ⟨(C : Int), kind, rows⟩ sn lot = oneO (fl C (hadF 0 rows C)) (lostS 0 rows) sn lot := by rw [singleV, h0, if_pos rfl]; simp only [Int.toNat_natCast, hadL_fl]
  have hH := fun W (hW : Below w.heap.size w W) => hR.same (.of_below hW)
  have hVv := fun W (hW : Below w.heap.size w W) => hv.same (.of_below hW)
  have hmk := run_make_row' (P := Tryz.prog) 25 3 (.int .i64 0) 8 Tryz.underlying25 Tryz.infoInt rfl .i64 .i64 C (by omega) (by omega)
  have hO := fun (W : World) (had : Value) (lost : Nat) (hd : RInts Any W had (fl C (hadF 0 rows C))) (hl : (lost : Int) = lostS 0 rows) (hW : Below w.heap.size w W) => (r11One Any T had _ (fl C (hadF 0 rows C)) lot lost sn W hd (hVv W hW) (by rw [fl_length]; exact cl) (by rw [fl_length]; omega) (by rw [fl_length]; omega)
    (fun x hx => by
      obtain ⟨i, hi, rfl⟩ := List.getElem_of_mem hx
      rw [fl_get]
      have := hadF_bound (rule := 0) (rows := rows) (c := C) (x := i) (m := 10) (by omega) (fun r hr => ⟨by have := cm r hr; omega, give_bound01.1, by have := (give_bound01 (marks := r.marks) (c := C) (x := i)).2.1; omega⟩)
      omega)
    (by have := lostS_bound (rule := 0) (rows := rows) (fun r hr => by have := cm r hr; omega); omega)).mono fun e w' ⟨vo, k1, k2, k3⟩ => (show ∃ b1 m1 c1 b2 m2 c2 b3 m3 c3, e = Ending.returned (.agg #[.slice b1 m1 c1, .slice b2 m2 c2, .slice b3 m3 c3]) ∧ VOutc (From W.heap.size) w' (.agg #[.slice b1 m1 c1, .slice b2 m2 c2, .slice b3 m3 c3]) (singleV 0 ⟨(C : Int), kind, rows⟩ sn lot) ∧ Below W.heap.size W w' from by
      rw [hl, ← hV] at k2
      obtain ⟨x1, x2, x3, rfl, q1, q2, q3⟩ := k2
      obtain ⟨b1, m1, c1, rfl⟩ := RSl.slice q1
      obtain ⟨b2, m2, c2, rfl⟩ := RSl.slice q2
      obtain ⟨b3, m3, c3, rfl⟩ := RSl.slice q3
      exact ⟨_, _, _, _, _, _, _, _, _, k1, ⟨_, _, _, rfl, q1, q2, q3⟩, k3⟩)
  have hG : ∀ (W w3 : World) (x : Value) (w' : World), VOutc (From W.heap.size) w3 x (singleV 0 ⟨(C : Int), kind, rows⟩ sn lot) → w.heap.size + 1 < W.heap.size → Same (fun b => b ≠ w.heap.size + 1) w3 w' → Below w.heap.size w w' → GivesSI 0 ⟨(C : Int), kind, rows⟩ sn lot w (.returned (.tuple #[x, .int .i64 0])) w' := fun W w3 x w' k1 k2 k3 k4 =>
    ⟨x, by rw [h0], VOutc.mono (fun b hb => Nat.le_trans (by omega) hb) (k1.same (k3.mono fun b hb e => by have : W.heap.size ≤ b := hb; omega)), k4⟩
  have hbound : ∀ k x, 0 ≤ hadF 0 (rows.take k) C x ∧ hadF 0 (rows.take k) C x ≤ 1000000 := fun k x => by
    have h1 := hadF_bound (rule := 0) (rows := rows.take k) (c := C) (x := x) (m := 1) (by omega) (fun r hr => ⟨by have := cm r (List.mem_of_mem_take hr); omega, give_bound01.1, give_bound01.2.1⟩)
    have h2 := (sumR_takeLe (l := rows) (fun r hr => by have := cm r hr; omega) k).2
    omega
  have hlb : ∀ k, 0 ≤ lostS 0 (rows.take k) ∧ lostS 0 (rows.take k) ≤ 1000000 := fun k => by
    have h1 := lostS_bound (rule := 0) (rows := rows.take k) (fun r hr => by have := cm r (List.mem_of_mem_take hr); omega)
    have h2 := (sumR_takeLe (l := rows) (fun r hr => by have := cm r hr; omega) k).2
    omega
  have hmark : ∀ k (hk : k < rows.length) c0, rows[k].marks = [c0] → 0 ≤ c0 ∧ c0 < C := fun k hk c0 hm => by
    have h1 := cf _ (List.getElem_mem hk)
    have hk2 : kind = 2 := ck
    rw [fineB, hm] at h1
    simp only at h1
    rw [if_neg (show ¬ kind = 3 by omega), if_pos hk2] at h1
    simp only [Bool.and_eq_true] at h1
    have := inB_get h1.1 0 (by simp)
    simpa using this
  have Hbound := Lib.hid hbound; have Hlb := Lib.hid hlb; have Hmark := Lib.hid hmark
  clear hbound hlb hmark
  have hn64 : n ≤ 64 := by rw [← hn]; exact cr
  have HM := Lib.hid hM; have HG := Lib.hid hG; have HO := Lib.hid hO; have HH := Lib.hid hH; have Hn := Lib.hid hn; have Hcm := Lib.hid cm; have Hcf := Lib.hid cf; have Hsum := Lib.hid csum; have Hbx := Lib.hid hbx; have Hbp := Lib.hid hbp
  clear hM hG hO hH hV hVv hS h0 h1 hv hn hnl hR cl cm cf csum cs1 cs2 hbx hbp cr ck
  go_enter Tryz.func15, Tryz.ntmps15
  go_wp2_with (go_at_call 48; refine HM.out.mono ?_; rintro e w1 ⟨rfl, hbM⟩; have hq1 := hb0.trans (hbM.mono (by simp; omega)); obtain ⟨g1, gc, gf⟩ := own_box hbM (by simp) Hbx.out; obtain ⟨p1, pc, -⟩ := own_box hbM (by simp; omega) Hbp.out; have pc0 := pc 0; have pc1 := pc 1; have pc2 := pc 2; have hlt1 : w.heap.size + 1 < w1.heap.size := size_of_box g1; have G1 := Lib.hid g1; have P1 := Lib.hid p1; clear pc gc gf g1 p1)
  have hA0 := Arr.madeN (k := .i64) w1 C 3
  have hz1 := hq1.size
  clear pc0 pc1 pc2
  go_loopw [10, 11, 12] (fun ls i _ wr => ∃ (k : Nat) (lost : Int), k ≤ n ∧ i = .int .i64 k ∧ ls = .int .i64 lost ∧ Hid (lost = lostS 0 (rows.take k)) ∧ Hid (Arr .i64 wr w1.heap.size 3 (fl C (hadF 0 (rows.take k) C))) ∧ Below w1.heap.size w1 wr) (fun _ i _ _ => n - (intOf i).toNat)
  case atStart =>
    refine ⟨0, 0, Nat.zero_le _, rfl, rfl, Lib.hid rfl, Lib.hid ?_, below_new _ _⟩
    have e : fl C (hadF 0 (rows.take 0) C) = List.replicate C 0 := (fl_congr fun x _ => by rw [List.take_zero, hadF_nil]).trans (fl_zero C)
    rw [e]; exact hA0
  case round =>
    obtain ⟨k, lost, hk, rfl, rfl, hlost, hA, hb⟩ := hrel
    have hbw : Below w.heap.size w wr := hq1.trans (hb.mono hz1)
    have gp := (hb.block _ (by omega)).trans P1.out
    obtain ⟨-, pcr, -⟩ := own_box (Below.refl _ wr) (size_of_box gp) gp
    have pc2 : wr.cell? ⟨w.heap.size, 2, none⟩ = some (.slice a n cap) := pcr 2
    clear gp pcr
    by_cases hlt : k < n
    · have hlr : k < rows.length := by rw [Hn.out]; exact hlt
      obtain ⟨b, off, cc, dd, rfl, hS, hbw0, hc, hd, hx⟩ := RSl.at2 (HH.out wr hbw) k hlr
      obtain ⟨ax, capx, rfl, rfl, -, -, hI⟩ := hx.open
      obtain ⟨b', off', _, _, eb, -, hbw', -⟩ := RSl.at2 (HH.out w (Below.refl _ _)) k hlr
      simp only [Option.some.injEq, Addr.mk.injEq, and_true] at eb
      obtain ⟨rfl, rfl⟩ := eb
      have hmany := Hcm.out _ (List.getElem_mem hlr)
      have hlb := Hlb.out (k + 1)
      by_cases h1 : rows[k].marks.length = 1
      · obtain ⟨c0, hm⟩ : ∃ c0, rows[k].marks = [c0] := by
          match hmm : rows[k].marks, h1 with
          | [c0], _ => exact ⟨c0, rfl⟩
        obtain ⟨m0, m1⟩ := Hmark.out k hlr c0 hm
        obtain ⟨p1', p2'⟩ := plur_one hlr hm m0 C
        have hbd := Hbound.out (k + 1) c0.toNat
        rw [hm] at hI
        obtain ⟨b2, off2, c2, rfl, -, hbw2, hc2, hx2⟩ := RSl.at1 hI 0 (by simp)
        obtain ⟨rfl, -⟩ := hx2.open
        have hAc := hA.out.cell (i := c0.toNat) (by rw [fl_length]; omega)
        rw [fl_get] at hAc
        rw [hadF_take hlr, hm, show lostL 0 [c0] = false from rfl, give0] at hbd
        simp only [Bool.false_eq_true, if_false] at hbd
        rw [if_pos (show ((c0.toNat : Nat) : Int) = c0 by omega), Int.one_mul] at hbd
        have hbd0 := (Hbound.out k c0.toNat).1
        have hfz := hA.out.frozen c0.toNat
        obtain ⟨many, hme⟩ : ∃ m, rows[k].many = m := ⟨_, rfl⟩
        obtain ⟨hv, hhv⟩ : ∃ v, hadF 0 (rows.take k) C c0.toNat = v := ⟨_, rfl⟩
        rw [hme] at hd hmany p1' hbd
        rw [hhv] at hAc p1' hbd hbd0
        have hl1 : rows[k].marks.length = 1 := h1
        rw [hl1] at hc
        have hne : b ≠ w1.heap.size := by omega
        have s1 : 0 ≤ hv + many := hbd.1
        have s2 : hv + many ≤ 1000000 := hbd.2
        have hxx : ([c0] : List Int)[0] = c0 := rfl
        rw [hxx] at hc2
        simp only [Nat.add_zero] at hc2
        have P1' := Lib.hid p1'; have P2' := Lib.hid p2'
        have hltA := hA.out.lt
        clear p1' p2' hbd hbd0 hhv hme hm h1 hl1 hx hx2 hI hlb hxx
        go_wp2
        go_still_tail 13, (by kernel_rfl)
        go_wp2
        refine ⟨⟨k + 1, lost, by omega, by go_num, rfl, Lib.hid (by rw [P2'.out]; exact hlost.out), Lib.hid (by rw [P1'.out]; exact Arr.set (show Arr .i64 wr.drew _ _ _ from hA.out) _ _), (hb.drew).setCell (p := ⟨w1.heap.size, c0.toNat, none⟩) (Nat.le_refl _) _⟩, by simp [intOf]; omega⟩
      · obtain ⟨p1', p2'⟩ := plur_lost hlr h1 C
        have hq : ((rows[k].marks.length : Nat) == 1) = false := by simpa using h1
        have hq2 : (((rows[k].marks.length : Nat) : Int) == 1) = false := by simp; omega
        obtain ⟨many, hme⟩ : ∃ m, rows[k].many = m := ⟨_, rfl⟩
        rw [hme] at hd hmany p2'
        rw [p2'] at hlb
        rw [← hlost.out] at hlb p2'
        have P1' := Lib.hid p1'; have P2' := Lib.hid p2'
        obtain ⟨L, hL⟩ : ∃ L, rows[k].marks.length = L := ⟨_, rfl⟩
        rw [hL] at hc hq hq2 h1
        have s1 : (0 : Int) ≤ lost + many := by omega
        have s2 : lost + many ≤ 1000000 := by omega
        clear p1' p2' hx hI hlb hL hme hq
        go_wp2
        exact ⟨⟨k + 1, lost + many, by omega, by go_num, rfl, Lib.hid P2'.out.symm, Lib.hid (by rw [P1'.out]; exact hA.out), hb⟩, by simp [intOf]; omega⟩
    · obtain rfl : k = n := by omega
      have hfull : Arr .i64 wr w1.heap.size 3 (fl C (hadF 0 rows C)) := by have := hA.out; rwa [List.take_of_length_le (by rw [Hn.out]; exact Nat.le_refl _)] at this
      have hbz : ∀ i, 0 ≤ hadF 0 rows C i ∧ hadF 0 rows C i ≤ 1000000 := fun i => by have := Hbound.out rows.length i; rwa [List.take_length] at this
      have hlq0 : lost = lostS 0 rows := by have := hlost.out; rwa [List.take_of_length_le (by rw [Hn.out]; exact Nat.le_refl _)] at this
      obtain ⟨ln, rfl⟩ : ∃ ln : Nat, lost = (ln : Int) := ⟨lost.toNat, by have := (Hlb.out rows.length).1; rw [List.take_length] at this; omega⟩
      have hlq : (ln : Int) = lostS 0 rows := hlq0
      have hb3 : Below w.heap.size w wr := hq1.trans (hb.mono hz1)
      have Hone := Lib.hid (HO.out wr _ ln (hfull.all (S := Any) trivial (fun x hx => by obtain ⟨i, hi, rfl⟩ := List.getElem_of_mem hx; rw [fl_get]; exact WalkArith.wf_i64 (by have := hbz i; omega)) (by rw [fl_length]; omega) (n := C) (cap := C) (by rw [fl_length]) (Nat.le_refl _)) hlq hb3)
      have gO := (hb.block _ (by omega)).trans G1.out
      have hltr : w.heap.size + 1 < wr.heap.size := size_of_box gO
      have GO := Lib.hid gO
      clear gO hlq hlq0 hbz hfull hA hlost
      go_wp2_with (go_at_call 49; refine Hone.out.mono ?_; rintro e w3 ⟨b1, m1, c1, b2, m2, c2, b3, m3, c3, rfl, k1, k2⟩; obtain ⟨g3, gc3, gf3⟩ := own_box k2 hltr GO.out; have hlt3 : w.heap.size + 1 < w3.heap.size := size_of_box g3; have K1 := Lib.hid k1; have K2 := Lib.hid k2; clear k1 k2)
      refine bodyPost_ret (v := .tuple #[.agg #[.slice b1 m1 c1, .slice b2 m2 c2, .slice b3 m3 c3], .int .i64 0]) (by simp [results, Tryz.results15, go_sem, gc3]) rfl (HG.out wr w3 _ _ K1.out hltr ?_ ?_)
      · exact (((Same.refl _ _).setCell (by simp) _).setCell (by simp) _).setCell (by simp) _
      · exact (((hb3.trans (K2.out.mono hb3.size)).setCell (p := ⟨w.heap.size + 1, 0, none⟩) (by simp) _).setCell (p := ⟨w.heap.size + 1, 1, none⟩) (by simp) _).setCell (p := ⟨w.heap.size + 1, 2, none⟩) (by simp) _
end Go.Proofs.YtogngcbflhdadaaGreat

/- The contract of the reference's Score. Printed by gen11b.py. -/
namespace Go.Proofs.YtogngcbflhdadaaGreat
open Go Go.RowKit Go.Shelf

theorem score_marks {kind : Int} {marks : List Int} {C : Nat} (ck : kind = kindL 2) (h : fineB ⟨kind, marks⟩ (C : Int) = true) : marks.length = C ∧ ∀ x, 0 ≤ marks.getD x 0 ∧ marks.getD x 0 ≤ 10 := by
  have hk : kind = 3 := ck
  rw [fineB] at h
  simp only at h
  rw [if_pos hk] at h
  simp only [Bool.and_eq_true, decide_eq_true_eq] at h
  refine ⟨by omega, fun x => ?_⟩
  by_cases hx : x < marks.length
  · rw [List.getD_eq_getElem?_getD, List.getElem?_eq_getElem hx]
    have := inB_get h.1 x hx
    simp only [Option.getD_some]
    omega
  · rw [List.getD_eq_getElem?_getD, List.getElem?_eq_none (by omega)]
    simp
set_option maxHeartbeats 4000000 in
set_option maxRecDepth 100000 in
theorem r11Score_bad (S T : Nat → Prop) (u v : Value) (p : Prof) (seats : Int) (lot : List Int) (w : World) (h : VProf S w u p) (hv : RInts T w v lot) (h0 : singleI 2 p seats lot ≠ 0) :
    Calls Tryz.prog 19 #[u, .int .i64 seats, v] w (GivesSI 2 p seats lot w) := by
  have h1 := h
  obtain ⟨a, cap, rfl, -, -, -⟩ := h
  obtain ⟨a2, cap2, rfl, -, -⟩ := RSl.shape hv
  obtain ⟨cands, kind, rows⟩ := p
  simp only at *
  obtain ⟨n, hn⟩ : ∃ n, rows.length = n := ⟨_, rfl⟩
  obtain ⟨nl, hnl⟩ : ∃ n, lot.length = n := ⟨_, rfl⟩
  rw [hn] at h1 ⊢
  rw [hnl] at hv ⊢
  have hb0 : Below w.heap.size w ((w.alloc (.cells #[.int .i64 cands, .int .u8 kind, .slice a n cap] 24)).alloc (.cells #[.slice none 0 0, .slice none 0 0, .slice none 0 0] 32)) := ((Below.refl _ _).alloc (Nat.le_refl _) _).alloc (by simp) _
  have hbx : ((w.alloc (.cells #[.int .i64 cands, .int .u8 kind, .slice a n cap] 24)).alloc (.cells #[.slice none 0 0, .slice none 0 0, .slice none 0 0] 32)).heap[w.heap.size + 1]? = some (.cells #[.slice none 0 0, .slice none 0 0, .slice none 0 0] 32 (0, 0)) := by
    have := box_new (w.alloc (.cells #[.int .i64 cands, .int .u8 kind, .slice a n cap] 24)) (.cells #[.slice none 0 0, .slice none 0 0, .slice none 0 0] 32)
    rwa [World.size_alloc] at this
  have hM := r11May S T _ _ ⟨cands, kind, rows⟩ 3 seats cands lot _ (h1.same (.of_below hb0)) (hv.same (.of_below hb0))
  have hS : singleI 2 ⟨cands, kind, rows⟩ seats lot = countI ⟨cands, kind, rows⟩ 3 seats cands lot := rfl
  obtain ⟨I, hI⟩ : ∃ I, singleI 2 ⟨cands, kind, rows⟩ seats lot = I := ⟨_, rfl⟩
  rw [← hS, hI] at hM
  rw [hI] at h0
  have hV : singleV 2 ⟨cands, kind, rows⟩ seats lot = noO := by rw [singleV, hI, if_neg h0]
  have hG : ∀ w', Below w.heap.size w w' → GivesSI 2 ⟨cands, kind, rows⟩ seats lot w (.returned (.tuple #[.agg #[.slice none 0 0, .slice none 0 0, .slice none 0 0], .int .i64 I])) w' := fun w' hb => ⟨_, by rw [hI], by rw [hV]; exact ⟨_, _, _, rfl, RSl.nil, RSl.nil, RSl.nil⟩, hb⟩
  have hq : (I != 0) = true := by simpa using h0
  have HM := Lib.hid hM; have HG := Lib.hid hG
  clear hM hG hV hS hI h0 h1 hv hn hnl
  go_enter Tryz.func19, Tryz.ntmps19
  go_wp2_with (go_at_call 48; refine HM.out.mono ?_; rintro e w1 ⟨rfl, hb1⟩; have hq1 := hb0.trans (hb1.mono (by simp; omega)); obtain ⟨g1, gc, gf⟩ := own_box hb1 (by simp) hbx; have hlt1 : w.heap.size + 1 < w1.heap.size := size_of_box g1; have Hq1 := Lib.hid hq1)
  refine bodyPost_ret (v := .tuple #[.agg #[.slice none 0 0, .slice none 0 0, .slice none 0 0], .int .i64 I]) (by simp [results, Tryz.results19, go_sem, gc]) rfl (HG.out _ ?_)
  exact ((Hq1.out.setCell (p := ⟨w.heap.size + 1, 0, none⟩) (by simp) _).setCell (p := ⟨w.heap.size + 1, 1, none⟩) (by simp) _).setCell (p := ⟨w.heap.size + 1, 2, none⟩) (by simp) _
set_option maxHeartbeats 1000000 in
set_option maxRecDepth 100000 in
theorem r11Score_ok (S T : Nat → Prop) (u v : Value) (p : Prof) (seats : Int) (lot : List Int) (w : World) (h : VProf S w u p) (hv : RInts T w v lot) (h0 : singleI 2 p seats lot = 0) :
    Calls Tryz.prog 19 #[u, .int .i64 seats, v] w (GivesSI 2 p seats lot w) := by
  have hC := counted h0
  have h1 := h
  obtain ⟨a, cap, rfl, -, -, hR⟩ := h
  obtain ⟨a2, cap2, rfl, -, -⟩ := RSl.shape hv
  obtain ⟨cands, kind, rows⟩ := p
  obtain ⟨ck, ⟨cc1, cc2⟩, ⟨cs1, cs2⟩, cl, cm, cf, cr, csum⟩ := hC
  simp only at *
  obtain ⟨n, hn⟩ : ∃ n, rows.length = n := ⟨_, rfl⟩
  obtain ⟨nl, hnl⟩ : ∃ n, lot.length = n := ⟨_, rfl⟩
  obtain ⟨C, hCn⟩ : ∃ C : Nat, cands = (C : Int) := ⟨cands.toNat, by omega⟩
  obtain ⟨sn, hsn⟩ : ∃ s : Nat, seats = (s : Int) := ⟨seats.toNat, by omega⟩
  subst hCn hsn
  rw [Int.toNat_natCast] at cl
  rw [hn] at h1 hR ⊢
  rw [hnl] at hv ⊢
  have hb0 : Below w.heap.size w ((w.alloc (.cells #[.int .i64 (C : Int), .int .u8 kind, .slice a n cap] 24)).alloc (.cells #[.slice none 0 0, .slice none 0 0, .slice none 0 0] 32)) := ((Below.refl _ _).alloc (Nat.le_refl _) _).alloc (by simp) _
  have hbp : ((w.alloc (.cells #[.int .i64 (C : Int), .int .u8 kind, .slice a n cap] 24)).alloc (.cells #[.slice none 0 0, .slice none 0 0, .slice none 0 0] 32)).heap[w.heap.size]? = some (.cells #[.int .i64 (C : Int), .int .u8 kind, .slice a n cap] 24 (0, 0)) := box_old _ (box_new w _)
  have hbx : ((w.alloc (.cells #[.int .i64 (C : Int), .int .u8 kind, .slice a n cap] 24)).alloc (.cells #[.slice none 0 0, .slice none 0 0, .slice none 0 0] 32)).heap[w.heap.size + 1]? = some (.cells #[.slice none 0 0, .slice none 0 0, .slice none 0 0] 32 (0, 0)) := by
    have := box_new (w.alloc (.cells #[.int .i64 (C : Int), .int .u8 kind, .slice a n cap] 24)) (.cells #[.slice none 0 0, .slice none 0 0, .slice none 0 0] 32)
    rwa [World.size_alloc] at this
  have hM := r11May S T _ _ ⟨(C : Int), kind, rows⟩ 3 sn C lot _ (h1.same (.of_below hb0)) (hv.same (.of_below hb0))
  have hS : singleI 2 ⟨(C : Int), kind, rows⟩ sn lot = countI ⟨(C : Int), kind, rows⟩ 3 sn C lot := rfl
  rw [← hS, h0] at hM
  have hV : singleV 2 ⟨(C : Int), kind, rows⟩ sn lot = oneO (fl C (hadF 2 rows C)) (lostS 2 rows) sn lot := by rw [singleV, h0, if_pos rfl]; simp only [Int.toNat_natCast, hadL_fl]
  have hH := fun W (hW : Below w.heap.size w W) => hR.same (.of_below hW)
  have hVv := fun W (hW : Below w.heap.size w W) => hv.same (.of_below hW)
  have hmk := run_make_row' (P := Tryz.prog) 25 3 (.int .i64 0) 8 Tryz.underlying25 Tryz.infoInt rfl .i64 .i64 C (by omega) (by omega)
  have hO := fun (W : World) (had : Value) (lost : Nat) (hd : RInts Any W had (fl C (hadF 2 rows C))) (hl : (lost : Int) = lostS 2 rows) (hW : Below w.heap.size w W) => (r11One Any T had _ (fl C (hadF 2 rows C)) lot lost sn W hd (hVv W hW) (by rw [fl_length]; exact cl) (by rw [fl_length]; omega) (by rw [fl_length]; omega)
    (fun x hx => by
      obtain ⟨i, hi, rfl⟩ := List.getElem_of_mem hx
      rw [fl_get]
      have := hadF_bound (rule := 2) (rows := rows) (c := C) (x := i) (m := 10) (by omega) (fun r hr => ⟨by have := cm r hr; omega, ((score_marks ck (cf r hr)).2 i).1, ((score_marks ck (cf r hr)).2 i).2⟩)
      omega)
    (by have := lostS_bound (rule := 2) (rows := rows) (fun r hr => by have := cm r hr; omega); omega)).mono fun e w' ⟨vo, k1, k2, k3⟩ => (show ∃ b1 m1 c1 b2 m2 c2 b3 m3 c3, e = Ending.returned (.agg #[.slice b1 m1 c1, .slice b2 m2 c2, .slice b3 m3 c3]) ∧ VOutc (From W.heap.size) w' (.agg #[.slice b1 m1 c1, .slice b2 m2 c2, .slice b3 m3 c3]) (singleV 2 ⟨(C : Int), kind, rows⟩ sn lot) ∧ Below W.heap.size W w' from by
      rw [hl, ← hV] at k2
      obtain ⟨x1, x2, x3, rfl, q1, q2, q3⟩ := k2
      obtain ⟨b1, m1, c1, rfl⟩ := RSl.slice q1
      obtain ⟨b2, m2, c2, rfl⟩ := RSl.slice q2
      obtain ⟨b3, m3, c3, rfl⟩ := RSl.slice q3
      exact ⟨_, _, _, _, _, _, _, _, _, k1, ⟨_, _, _, rfl, q1, q2, q3⟩, k3⟩)
  have hG : ∀ (W w3 : World) (x : Value) (w' : World), VOutc (From W.heap.size) w3 x (singleV 2 ⟨(C : Int), kind, rows⟩ sn lot) → w.heap.size + 1 < W.heap.size → Same (fun b => b ≠ w.heap.size + 1) w3 w' → Below w.heap.size w w' → GivesSI 2 ⟨(C : Int), kind, rows⟩ sn lot w (.returned (.tuple #[x, .int .i64 0])) w' := fun W w3 x w' k1 k2 k3 k4 =>
    ⟨x, by rw [h0], VOutc.mono (fun b hb => Nat.le_trans (by omega) hb) (k1.same (k3.mono fun b hb e => by have : W.heap.size ≤ b := hb; omega)), k4⟩
  have hmark : ∀ k (hk : k < rows.length), rows[k].marks.length = C ∧ ∀ x, 0 ≤ rows[k].marks.getD x 0 ∧ rows[k].marks.getD x 0 ≤ 10 := fun k hk => score_marks ck (cf _ (List.getElem_mem hk))
  have Hmark := Lib.hid hmark
  clear hmark
  have hbound : ∀ k x, 0 ≤ hadF 2 (rows.take k) C x ∧ hadF 2 (rows.take k) C x ≤ 10000000 := fun k x => by
    have h1 := hadF_bound (rule := 2) (rows := rows.take k) (c := C) (x := x) (m := 10) (by omega) (fun r hr => ⟨by have := cm r (List.mem_of_mem_take hr); omega, ((score_marks ck (cf r (List.mem_of_mem_take hr))).2 x).1, ((score_marks ck (cf r (List.mem_of_mem_take hr))).2 x).2⟩)
    have h2 := (sumR_takeLe (l := rows) (fun r hr => by have := cm r hr; omega) k).2
    omega
  have Hbound := Lib.hid hbound
  clear hbound
  have hn64 : n ≤ 64 := by rw [← hn]; exact cr
  have HM := Lib.hid hM; have HG := Lib.hid hG; have HO := Lib.hid hO; have HH := Lib.hid hH; have Hn := Lib.hid hn; have Hcm := Lib.hid cm; have Hcf := Lib.hid cf; have Hsum := Lib.hid csum; have Hbx := Lib.hid hbx; have Hbp := Lib.hid hbp
  clear hM hG hO hH hV hVv hS h0 h1 hv hn hnl hR cl cm cf csum cs1 cs2 hbx hbp cr ck
  go_enter Tryz.func19, Tryz.ntmps19
  go_wp2_with (go_at_call 48; refine HM.out.mono ?_; rintro e w1 ⟨rfl, hbM⟩; have hq1 := hb0.trans (hbM.mono (by simp; omega)); obtain ⟨g1, gc, gf⟩ := own_box hbM (by simp) Hbx.out; obtain ⟨p1, pc, -⟩ := own_box hbM (by simp; omega) Hbp.out; have pc0 := pc 0; have pc1 := pc 1; have pc2 := pc 2; have hlt1 : w.heap.size + 1 < w1.heap.size := size_of_box g1; have G1 := Lib.hid g1; have P1 := Lib.hid p1; clear pc gc gf g1 p1)
  have hA0 := Arr.madeN (k := .i64) w1 C 3
  have hz1 := hq1.size
  clear pc0 pc1 pc2
  go_loopw [10, 11] (fun ci _ wr => ∃ x : Nat, x ≤ C ∧ ci = .int .i64 x ∧ Hid (Arr .i64 wr w1.heap.size 3 (fl C (partF 2 rows C x 0))) ∧ Below w1.heap.size w1 wr) (fun ci _ _ => C - (intOf ci).toNat)
  case atStart => exact ⟨0, Nat.zero_le _, rfl, Lib.hid (by rw [part_start]; exact hA0), below_new _ _⟩
  case round =>
    obtain ⟨x, hx, rfl, hA, hb⟩ := hrel
    have gp := (hb.block _ (by omega)).trans P1.out
    obtain ⟨-, pcr, -⟩ := own_box (Below.refl _ wr) (size_of_box gp) gp
    have pc0 : wr.cell? ⟨w.heap.size, 0, none⟩ = some (.int .i64 (C : Int)) := pcr 0
    clear gp pcr
    by_cases hltx : x < C
    · have hxC : (x : Int) < C := by omega
      go_wp2
      obtain ⟨wo, rfl⟩ : ∃ q, q = wr := ⟨_, rfl⟩
      clear pc0
      go_loopw [11] (fun ii wr => ∃ i : Nat, i ≤ n ∧ ii = .int .i64 i ∧ Hid (Arr .i64 wr w1.heap.size 3 (fl C (partF 2 rows C x i))) ∧ Below w1.heap.size w1 wr) (fun ii _ => n - (intOf ii).toNat)
      case atStart => exact ⟨0, Nat.zero_le _, rfl, hA, hb⟩
      case round =>
        clear hA hb
        obtain ⟨i, hi, rfl, hA, hb⟩ := hrel
        have hbw : Below w.heap.size w wr := hq1.trans (hb.mono hz1)
        have gp := (hb.block _ (by omega)).trans P1.out
        obtain ⟨-, pcr, -⟩ := own_box (Below.refl _ wr) (size_of_box gp) gp
        have pc0 : wr.cell? ⟨w.heap.size, 0, none⟩ = some (.int .i64 (C : Int)) := pcr 0
        have pc2 : wr.cell? ⟨w.heap.size, 2, none⟩ = some (.slice a n cap) := pcr 2
        clear gp pcr
        by_cases hlt : i < n
        · have hlr : i < rows.length := by rw [Hn.out]; exact hlt
          obtain ⟨b, off, cc, dd, rfl, hS, hbw0, hc, hd, hxr⟩ := RSl.at2 (HH.out wr hbw) i hlr
          obtain ⟨ax, capx, rfl, rfl, -, -, hI⟩ := hxr.open
          obtain ⟨b', off', _, _, eb, -, hbw', -⟩ := RSl.at2 (HH.out w (Below.refl _ _)) i hlr
          simp only [Option.some.injEq, Addr.mk.injEq, and_true] at eb
          obtain ⟨rfl, rfl⟩ := eb
          have hmany := Hcm.out _ (List.getElem_mem hlr)
          have hbd := Hbound.out (i + 1) x
          have hbd0 := (Hbound.out i x).1
          have hAc := hA.out.cell (i := x) (by rw [fl_length]; omega)
          rw [part_get] at hAc
          have hfz := hA.out.frozen x
          have hltA := hA.out.lt
          have hne : b ≠ w1.heap.size := by omega
          obtain ⟨many, hme⟩ : ∃ m, rows[i].many = m := ⟨_, rfl⟩
          obtain ⟨hv, hhv⟩ : ∃ v, hadF 2 (rows.take i) C x = v := ⟨_, rfl⟩
          rw [hhv] at hAc hbd0
          have hlen := (Hmark.out i hlr).1
          have hxm : x < rows[i].marks.length := by omega
          obtain ⟨b2, off2, c2, rfl, -, hbw2, hc2, hx2⟩ := RSl.at1 hI x hxm
          obtain ⟨rfl, -⟩ := hx2.open
          have hs0 := (Hmark.out i hlr).2 x
          have hgd : rows[i].marks.getD x 0 = rows[i].marks[x] := by rw [List.getD_eq_getElem?_getD, List.getElem?_eq_getElem hxm]; rfl
          obtain ⟨s, hse⟩ : ∃ s, rows[i].marks[x] = s := ⟨_, rfl⟩
          rw [hgd, hse] at hs0
          rw [hse] at hc2
          obtain ⟨q1, q2⟩ := part_step (rule := 2) (C := C) (x := x) hlr (d := s * many) (by rw [show lostL 2 rows[i].marks = false from rfl, give2, hgd, hse, hme]; simp)
          rw [q2, hhv] at hbd
          rw [hhv] at q1
          rw [hme] at hd hmany
          rw [hlen] at hc
          have hp0 : 0 ≤ s * many := Int.mul_nonneg hs0.1 (by omega)
          have hw1 : IntKind.i64.wrap (s * many) = s * many := by rw [IntKind.wrap_i64]; omega
          have hw2 : IntKind.i64.wrap (hv + s * many) = hv + s * many := by rw [IntKind.wrap_i64]; omega
          have Q1 := Lib.hid q1
          clear q1 q2 hse hgd hlen hme hhv hbd hbd0 hI hxr hx2 hs0 hp0 hxm
          go_wp2
          go_still_tail 23, (by kernel_rfl)
          go_wp2
          exact ⟨⟨i + 1, by omega, by go_num, Lib.hid (by rw [Q1.out]; exact Arr.set (show Arr .i64 wr.drew _ _ _ from hA.out) _ _), (hb.drew).setCell (p := ⟨w1.heap.size, x, none⟩) (Nat.le_refl _) _⟩, by simp [intOf]; omega⟩
        · obtain rfl : i = n := by omega
          have hst := part_next 2 rows C x
          rw [Hn.out] at hst
          have Hst := Lib.hid hst
          clear hst
          go_wp2
          exact ⟨⟨x + 1, by omega, by go_num, Lib.hid (by rw [← Hst.out]; exact hA.out), hb⟩, by simp [intOf]; omega⟩
    · obtain rfl : x = C := by omega
      have hfull : Arr .i64 wr w1.heap.size 3 (fl x (hadF 2 rows x)) := by have := hA.out; rwa [part_end] at this
      have hbz : ∀ i, 0 ≤ hadF 2 rows x i ∧ hadF 2 rows x i ≤ 10000000 := fun i => by have := Hbound.out rows.length i; rwa [List.take_length] at this
      have hlq : ((0 : Nat) : Int) = lostS 2 rows := (lostS_zero (by omega) rows).symm
      have hb3 : Below w.heap.size w wr := hq1.trans (hb.mono hz1)
      have Hone := Lib.hid (HO.out wr _ 0 (hfull.all (S := Any) trivial (fun x hx => by obtain ⟨i, hi, rfl⟩ := List.getElem_of_mem hx; rw [fl_get]; exact WalkArith.wf_i64 (by have := hbz i; omega)) (by rw [fl_length]; omega) (n := x) (cap := x) (by rw [fl_length]) (Nat.le_refl _)) hlq hb3)
      rw [show ((0 : Nat) : Int) = 0 from rfl] at Hone
      have gO := (hb.block _ (by omega)).trans G1.out
      have hltr : w.heap.size + 1 < wr.heap.size := size_of_box gO
      have GO := Lib.hid gO
      clear gO hlq hbz hfull hA
      go_wp2_with (go_at_call 49; refine Hone.out.mono ?_; rintro e w3 ⟨b1, m1, c1, b2, m2, c2, b3, m3, c3, rfl, k1, k2⟩; obtain ⟨g3, gc3, gf3⟩ := own_box k2 hltr GO.out; have hlt3 : w.heap.size + 1 < w3.heap.size := size_of_box g3; have K1 := Lib.hid k1; have K2 := Lib.hid k2; clear k1 k2)
      refine bodyPost_ret (v := .tuple #[.agg #[.slice b1 m1 c1, .slice b2 m2 c2, .slice b3 m3 c3], .int .i64 0]) (by simp [results, Tryz.results19, go_sem, gc3]) rfl (HG.out wr w3 _ _ K1.out hltr ?_ ?_)
      · exact (((Same.refl _ _).setCell (by simp) _).setCell (by simp) _).setCell (by simp) _
      · exact (((hb3.trans (K2.out.mono hb3.size)).setCell (p := ⟨w.heap.size + 1, 0, none⟩) (by simp) _).setCell (p := ⟨w.heap.size + 1, 1, none⟩) (by simp) _).setCell (p := ⟨w.heap.size + 1, 2, none⟩) (by simp) _
end Go.Proofs.YtogngcbflhdadaaGreat

/- Contracts of the reference's Approval and Score. Printed by gen11b.py. -/
namespace Go.Proofs.YtogngcbflhdadaaGreat
open Go Go.RowKit Go.Shelf

set_option maxHeartbeats 4000000 in
set_option maxRecDepth 100000 in
theorem r11Approval_bad (S T : Nat → Prop) (u v : Value) (p : Prof) (seats : Int) (lot : List Int) (w : World) (h : VProf S w u p) (hv : RInts T w v lot) (h0 : singleI 1 p seats lot ≠ 0) :
    Calls Tryz.prog 17 #[u, .int .i64 seats, v] w (GivesSI 1 p seats lot w) := by
  have h1 := h
  obtain ⟨a, cap, rfl, -, -, -⟩ := h
  obtain ⟨a2, cap2, rfl, -, -⟩ := RSl.shape hv
  obtain ⟨cands, kind, rows⟩ := p
  simp only at *
  obtain ⟨n, hn⟩ : ∃ n, rows.length = n := ⟨_, rfl⟩
  obtain ⟨nl, hnl⟩ : ∃ n, lot.length = n := ⟨_, rfl⟩
  rw [hn] at h1 ⊢
  rw [hnl] at hv ⊢
  have hb0 : Below w.heap.size w ((w.alloc (.cells #[.int .i64 cands, .int .u8 kind, .slice a n cap] 24)).alloc (.cells #[.slice none 0 0, .slice none 0 0, .slice none 0 0] 32)) := ((Below.refl _ _).alloc (Nat.le_refl _) _).alloc (by simp) _
  have hbx : ((w.alloc (.cells #[.int .i64 cands, .int .u8 kind, .slice a n cap] 24)).alloc (.cells #[.slice none 0 0, .slice none 0 0, .slice none 0 0] 32)).heap[w.heap.size + 1]? = some (.cells #[.slice none 0 0, .slice none 0 0, .slice none 0 0] 32 (0, 0)) := by
    have := box_new (w.alloc (.cells #[.int .i64 cands, .int .u8 kind, .slice a n cap] 24)) (.cells #[.slice none 0 0, .slice none 0 0, .slice none 0 0] 32)
    rwa [World.size_alloc] at this
  have hM := r11May S T _ _ ⟨cands, kind, rows⟩ 2 seats cands lot _ (h1.same (.of_below hb0)) (hv.same (.of_below hb0))
  have hS : singleI 1 ⟨cands, kind, rows⟩ seats lot = countI ⟨cands, kind, rows⟩ 2 seats cands lot := rfl
  obtain ⟨I, hI⟩ : ∃ I, singleI 1 ⟨cands, kind, rows⟩ seats lot = I := ⟨_, rfl⟩
  rw [← hS, hI] at hM
  rw [hI] at h0
  have hV : singleV 1 ⟨cands, kind, rows⟩ seats lot = noO := by rw [singleV, hI, if_neg h0]
  have hG : ∀ w', Below w.heap.size w w' → GivesSI 1 ⟨cands, kind, rows⟩ seats lot w (.returned (.tuple #[.agg #[.slice none 0 0, .slice none 0 0, .slice none 0 0], .int .i64 I])) w' := fun w' hb => ⟨_, by rw [hI], by rw [hV]; exact ⟨_, _, _, rfl, RSl.nil, RSl.nil, RSl.nil⟩, hb⟩
  have hq : (I != 0) = true := by simpa using h0
  have HM := Lib.hid hM; have HG := Lib.hid hG
  clear hM hG hV hS hI h0 h1 hv hn hnl
  go_enter Tryz.func17, Tryz.ntmps17
  go_wp2_with (go_at_call 48; refine HM.out.mono ?_; rintro e w1 ⟨rfl, hb1⟩; have hq1 := hb0.trans (hb1.mono (by simp; omega)); obtain ⟨g1, gc, gf⟩ := own_box hb1 (by simp) hbx; have hlt1 : w.heap.size + 1 < w1.heap.size := size_of_box g1; have Hq1 := Lib.hid hq1)
  refine bodyPost_ret (v := .tuple #[.agg #[.slice none 0 0, .slice none 0 0, .slice none 0 0], .int .i64 I]) (by simp [results, Tryz.results17, go_sem, gc]) rfl (HG.out _ ?_)
  exact ((Hq1.out.setCell (p := ⟨w.heap.size + 1, 0, none⟩) (by simp) _).setCell (p := ⟨w.heap.size + 1, 1, none⟩) (by simp) _).setCell (p := ⟨w.heap.size + 1, 2, none⟩) (by simp) _
set_option maxHeartbeats 1000000 in
set_option maxRecDepth 100000 in
theorem r11Approval_ok (S T : Nat → Prop) (u v : Value) (p : Prof) (seats : Int) (lot : List Int) (w : World) (h : VProf S w u p) (hv : RInts T w v lot) (h0 : singleI 1 p seats lot = 0) :
    Calls Tryz.prog 17 #[u, .int .i64 seats, v] w (GivesSI 1 p seats lot w) := by
  have hC := counted h0
  have h1 := h
  obtain ⟨a, cap, rfl, -, -, hR⟩ := h
  obtain ⟨a2, cap2, rfl, -, -⟩ := RSl.shape hv
  obtain ⟨cands, kind, rows⟩ := p
  obtain ⟨ck, ⟨cc1, cc2⟩, ⟨cs1, cs2⟩, cl, cm, cf, cr, csum⟩ := hC
  simp only at *
  obtain ⟨n, hn⟩ : ∃ n, rows.length = n := ⟨_, rfl⟩
  obtain ⟨nl, hnl⟩ : ∃ n, lot.length = n := ⟨_, rfl⟩
  obtain ⟨C, hCn⟩ : ∃ C : Nat, cands = (C : Int) := ⟨cands.toNat, by omega⟩
  obtain ⟨sn, hsn⟩ : ∃ s : Nat, seats = (s : Int) := ⟨seats.toNat, by omega⟩
  subst hCn hsn
  rw [Int.toNat_natCast] at cl
  rw [hn] at h1 hR ⊢
  rw [hnl] at hv ⊢
  have hb0 : Below w.heap.size w ((w.alloc (.cells #[.int .i64 (C : Int), .int .u8 kind, .slice a n cap] 24)).alloc (.cells #[.slice none 0 0, .slice none 0 0, .slice none 0 0] 32)) := ((Below.refl _ _).alloc (Nat.le_refl _) _).alloc (by simp) _
  have hbp : ((w.alloc (.cells #[.int .i64 (C : Int), .int .u8 kind, .slice a n cap] 24)).alloc (.cells #[.slice none 0 0, .slice none 0 0, .slice none 0 0] 32)).heap[w.heap.size]? = some (.cells #[.int .i64 (C : Int), .int .u8 kind, .slice a n cap] 24 (0, 0)) := box_old _ (box_new w _)
  have hbx : ((w.alloc (.cells #[.int .i64 (C : Int), .int .u8 kind, .slice a n cap] 24)).alloc (.cells #[.slice none 0 0, .slice none 0 0, .slice none 0 0] 32)).heap[w.heap.size + 1]? = some (.cells #[.slice none 0 0, .slice none 0 0, .slice none 0 0] 32 (0, 0)) := by
    have := box_new (w.alloc (.cells #[.int .i64 (C : Int), .int .u8 kind, .slice a n cap] 24)) (.cells #[.slice none 0 0, .slice none 0 0, .slice none 0 0] 32)
    rwa [World.size_alloc] at this
  have hM := r11May S T _ _ ⟨(C : Int), kind, rows⟩ 2 sn C lot _ (h1.same (.of_below hb0)) (hv.same (.of_below hb0))
  have hS : singleI 1 ⟨(C : Int), kind, rows⟩ sn lot = countI ⟨(C : Int), kind, rows⟩ 2 sn C lot := rfl
  rw [← hS, h0] at hM
  have hV : singleV 1 ⟨(C : Int), kind, rows⟩ sn lot = oneO (fl C (hadF 1 rows C)) (lostS 1 rows) sn lot := by rw [singleV, h0, if_pos rfl]; simp only [Int.toNat_natCast, hadL_fl]
  have hH := fun W (hW : Below w.heap.size w W) => hR.same (.of_below hW)
  have hVv := fun W (hW : Below w.heap.size w W) => hv.same (.of_below hW)
  have hmk := run_make_row' (P := Tryz.prog) 25 3 (.int .i64 0) 8 Tryz.underlying25 Tryz.infoInt rfl .i64 .i64 C (by omega) (by omega)
  have hO := fun (W : World) (had : Value) (lost : Nat) (hd : RInts Any W had (fl C (hadF 1 rows C))) (hl : (lost : Int) = lostS 1 rows) (hW : Below w.heap.size w W) => (r11One Any T had _ (fl C (hadF 1 rows C)) lot lost sn W hd (hVv W hW) (by rw [fl_length]; exact cl) (by rw [fl_length]; omega) (by rw [fl_length]; omega)
    (fun x hx => by
      obtain ⟨i, hi, rfl⟩ := List.getElem_of_mem hx
      rw [fl_get]
      have := hadF_bound (rule := 1) (rows := rows) (c := C) (x := i) (m := 10) (by omega) (fun r hr => ⟨by have := cm r hr; omega, give_bound01.2.2.1, by have := (give_bound01 (marks := r.marks) (c := C) (x := i)).2.2.2; omega⟩)
      omega)
    (by have := lostS_bound (rule := 1) (rows := rows) (fun r hr => by have := cm r hr; omega); omega)).mono fun e w' ⟨vo, k1, k2, k3⟩ => (show ∃ b1 m1 c1 b2 m2 c2 b3 m3 c3, e = Ending.returned (.agg #[.slice b1 m1 c1, .slice b2 m2 c2, .slice b3 m3 c3]) ∧ VOutc (From W.heap.size) w' (.agg #[.slice b1 m1 c1, .slice b2 m2 c2, .slice b3 m3 c3]) (singleV 1 ⟨(C : Int), kind, rows⟩ sn lot) ∧ Below W.heap.size W w' from by
      rw [hl, ← hV] at k2
      obtain ⟨x1, x2, x3, rfl, q1, q2, q3⟩ := k2
      obtain ⟨b1, m1, c1, rfl⟩ := RSl.slice q1
      obtain ⟨b2, m2, c2, rfl⟩ := RSl.slice q2
      obtain ⟨b3, m3, c3, rfl⟩ := RSl.slice q3
      exact ⟨_, _, _, _, _, _, _, _, _, k1, ⟨_, _, _, rfl, q1, q2, q3⟩, k3⟩)
  have hG : ∀ (W w3 : World) (x : Value) (w' : World), VOutc (From W.heap.size) w3 x (singleV 1 ⟨(C : Int), kind, rows⟩ sn lot) → w.heap.size + 1 < W.heap.size → Same (fun b => b ≠ w.heap.size + 1) w3 w' → Below w.heap.size w w' → GivesSI 1 ⟨(C : Int), kind, rows⟩ sn lot w (.returned (.tuple #[x, .int .i64 0])) w' := fun W w3 x w' k1 k2 k3 k4 =>
    ⟨x, by rw [h0], VOutc.mono (fun b hb => Nat.le_trans (by omega) hb) (k1.same (k3.mono fun b hb e => by have : W.heap.size ≤ b := hb; omega)), k4⟩
  have hbound : ∀ k x, 0 ≤ hadF 1 (rows.take k) C x ∧ hadF 1 (rows.take k) C x ≤ 1000000 := fun k x => by
    have h1 := hadF_bound (rule := 1) (rows := rows.take k) (c := C) (x := x) (m := 1) (by omega) (fun r hr => ⟨by have := cm r (List.mem_of_mem_take hr); omega, give_bound01.2.2.1, give_bound01.2.2.2⟩)
    have h2 := (sumR_takeLe (l := rows) (fun r hr => by have := cm r hr; omega) k).2
    omega
  have Hbound := Lib.hid hbound
  clear hbound
  have hn64 : n ≤ 64 := by rw [← hn]; exact cr
  have HM := Lib.hid hM; have HG := Lib.hid hG; have HO := Lib.hid hO; have HH := Lib.hid hH; have Hn := Lib.hid hn; have Hcm := Lib.hid cm; have Hcf := Lib.hid cf; have Hsum := Lib.hid csum; have Hbx := Lib.hid hbx; have Hbp := Lib.hid hbp
  clear hM hG hO hH hV hVv hS h0 h1 hv hn hnl hR cl cm cf csum cs1 cs2 hbx hbp cr ck
  go_enter Tryz.func17, Tryz.ntmps17
  go_wp2_with (go_at_call 48; refine HM.out.mono ?_; rintro e w1 ⟨rfl, hbM⟩; have hq1 := hb0.trans (hbM.mono (by simp; omega)); obtain ⟨g1, gc, gf⟩ := own_box hbM (by simp) Hbx.out; obtain ⟨p1, pc, -⟩ := own_box hbM (by simp; omega) Hbp.out; have pc0 := pc 0; have pc1 := pc 1; have pc2 := pc 2; have hlt1 : w.heap.size + 1 < w1.heap.size := size_of_box g1; have G1 := Lib.hid g1; have P1 := Lib.hid p1; clear pc gc gf g1 p1)
  have hA0 := Arr.madeN (k := .i64) w1 C 3
  have hz1 := hq1.size
  clear pc0 pc1 pc2
  go_loopw [10, 11] (fun ci _ wr => ∃ x : Nat, x ≤ C ∧ ci = .int .i64 x ∧ Hid (Arr .i64 wr w1.heap.size 3 (fl C (partF 1 rows C x 0))) ∧ Below w1.heap.size w1 wr) (fun ci _ _ => C - (intOf ci).toNat)
  case atStart => exact ⟨0, Nat.zero_le _, rfl, Lib.hid (by rw [part_start]; exact hA0), below_new _ _⟩
  case round =>
    obtain ⟨x, hx, rfl, hA, hb⟩ := hrel
    have gp := (hb.block _ (by omega)).trans P1.out
    obtain ⟨-, pcr, -⟩ := own_box (Below.refl _ wr) (size_of_box gp) gp
    have pc0 : wr.cell? ⟨w.heap.size, 0, none⟩ = some (.int .i64 (C : Int)) := pcr 0
    clear gp pcr
    by_cases hltx : x < C
    · have hxC : (x : Int) < C := by omega
      go_wp2
      obtain ⟨wo, rfl⟩ : ∃ q, q = wr := ⟨_, rfl⟩
      clear pc0
      go_loopw [11] (fun ii wr => ∃ i : Nat, i ≤ n ∧ ii = .int .i64 i ∧ Hid (Arr .i64 wr w1.heap.size 3 (fl C (partF 1 rows C x i))) ∧ Below w1.heap.size w1 wr) (fun ii _ => n - (intOf ii).toNat)
      case atStart => exact ⟨0, Nat.zero_le _, rfl, hA, hb⟩
      case round =>
        clear hA hb
        obtain ⟨i, hi, rfl, hA, hb⟩ := hrel
        have hbw : Below w.heap.size w wr := hq1.trans (hb.mono hz1)
        have gp := (hb.block _ (by omega)).trans P1.out
        obtain ⟨-, pcr, -⟩ := own_box (Below.refl _ wr) (size_of_box gp) gp
        have pc0 : wr.cell? ⟨w.heap.size, 0, none⟩ = some (.int .i64 (C : Int)) := pcr 0
        have pc2 : wr.cell? ⟨w.heap.size, 2, none⟩ = some (.slice a n cap) := pcr 2
        clear gp pcr
        by_cases hlt : i < n
        · have hlr : i < rows.length := by rw [Hn.out]; exact hlt
          obtain ⟨b, off, cc, dd, rfl, hS, hbw0, hc, hd, hxr⟩ := RSl.at2 (HH.out wr hbw) i hlr
          obtain ⟨ax, capx, rfl, rfl, -, -, hI⟩ := hxr.open
          obtain ⟨b', off', _, _, eb, -, hbw', -⟩ := RSl.at2 (HH.out w (Below.refl _ _)) i hlr
          simp only [Option.some.injEq, Addr.mk.injEq, and_true] at eb
          obtain ⟨rfl, rfl⟩ := eb
          have hmany := Hcm.out _ (List.getElem_mem hlr)
          have hbd := Hbound.out (i + 1) x
          have hbd0 := (Hbound.out i x).1
          have hAc := hA.out.cell (i := x) (by rw [fl_length]; omega)
          rw [part_get] at hAc
          have hfz := hA.out.frozen x
          have hltA := hA.out.lt
          have hne : b ≠ w1.heap.size := by omega
          obtain ⟨many, hme⟩ : ∃ m, rows[i].many = m := ⟨_, rfl⟩
          obtain ⟨hv, hhv⟩ : ∃ v, hadF 1 (rows.take i) C x = v := ⟨_, rfl⟩
          rw [hhv] at hAc hbd0
          have hIn := r11In S (.slice ax rows[i].marks.length capx) rows[i].marks (x : Int) wr hI
          obtain ⟨L, hL⟩ : ∃ L, rows[i].marks.length = L := ⟨_, rfl⟩
          rw [hL] at hIn hc
          cases hq : hasI rows[i].marks (x : Int)
          · rw [hq] at hIn
            have hsk := part_skip (rule := 1) (C := C) (x := x) hlr (by rw [show lostL 1 rows[i].marks = false from rfl, give1, show rows[i].marks.contains (x : Int) = false from hq]; simp)
            have Hsk := Lib.hid hsk; have HIn := Lib.hid hIn
            clear hsk hIn hq hL hme hhv hbd hbd0 hAc hfz hI hxr
            go_wp2_with (go_at_call 32; refine HIn.out.mono ?_; rintro e w2 ⟨rfl, rfl⟩)
            exact ⟨⟨i + 1, by omega, by go_num, Lib.hid (by rw [Hsk.out]; exact hA.out), hb⟩, by simp [intOf]; omega⟩
          · rw [hq] at hIn
            obtain ⟨q1, q2⟩ := part_step (rule := 1) (C := C) (x := x) hlr (d := many) (by rw [show lostL 1 rows[i].marks = false from rfl, give1, show rows[i].marks.contains (x : Int) = true from hq, hme]; simp)
            rw [q2, hhv] at hbd
            rw [hhv] at q1
            rw [hme] at hd hmany
            have s1 : 0 ≤ hv + many := hbd.1
            have s2 : hv + many ≤ 1000000 := hbd.2
            have Q1 := Lib.hid q1; have HIn := Lib.hid hIn
            clear q1 q2 hIn hq hL hme hhv hbd hbd0 hI hxr
            go_wp2_with (go_at_call 32; refine HIn.out.mono ?_; rintro e w2 ⟨rfl, rfl⟩)
            go_still_tail 13, (by kernel_rfl)
            go_wp2
            exact ⟨⟨i + 1, by omega, by go_num, Lib.hid (by rw [Q1.out]; exact Arr.set (show Arr .i64 wr.drew _ _ _ from hA.out) _ _), (hb.drew).setCell (p := ⟨w1.heap.size, x, none⟩) (Nat.le_refl _) _⟩, by simp [intOf]; omega⟩
        · obtain rfl : i = n := by omega
          have hst := part_next 1 rows C x
          rw [Hn.out] at hst
          have Hst := Lib.hid hst
          clear hst
          go_wp2
          exact ⟨⟨x + 1, by omega, by go_num, Lib.hid (by rw [← Hst.out]; exact hA.out), hb⟩, by simp [intOf]; omega⟩
    · obtain rfl : x = C := by omega
      have hfull : Arr .i64 wr w1.heap.size 3 (fl x (hadF 1 rows x)) := by have := hA.out; rwa [part_end] at this
      have hbz : ∀ i, 0 ≤ hadF 1 rows x i ∧ hadF 1 rows x i ≤ 1000000 := fun i => by have := Hbound.out rows.length i; rwa [List.take_length] at this
      have hlq : ((0 : Nat) : Int) = lostS 1 rows := (lostS_zero (by omega) rows).symm
      have hb3 : Below w.heap.size w wr := hq1.trans (hb.mono hz1)
      have Hone := Lib.hid (HO.out wr _ 0 (hfull.all (S := Any) trivial (fun x hx => by obtain ⟨i, hi, rfl⟩ := List.getElem_of_mem hx; rw [fl_get]; exact WalkArith.wf_i64 (by have := hbz i; omega)) (by rw [fl_length]; omega) (n := x) (cap := x) (by rw [fl_length]) (Nat.le_refl _)) hlq hb3)
      rw [show ((0 : Nat) : Int) = 0 from rfl] at Hone
      have gO := (hb.block _ (by omega)).trans G1.out
      have hltr : w.heap.size + 1 < wr.heap.size := size_of_box gO
      have GO := Lib.hid gO
      clear gO hlq hbz hfull hA
      go_wp2_with (go_at_call 49; refine Hone.out.mono ?_; rintro e w3 ⟨b1, m1, c1, b2, m2, c2, b3, m3, c3, rfl, k1, k2⟩; obtain ⟨g3, gc3, gf3⟩ := own_box k2 hltr GO.out; have hlt3 : w.heap.size + 1 < w3.heap.size := size_of_box g3; have K1 := Lib.hid k1; have K2 := Lib.hid k2; clear k1 k2)
      refine bodyPost_ret (v := .tuple #[.agg #[.slice b1 m1 c1, .slice b2 m2 c2, .slice b3 m3 c3], .int .i64 0]) (by simp [results, Tryz.results17, go_sem, gc3]) rfl (HG.out wr w3 _ _ K1.out hltr ?_ ?_)
      · exact (((Same.refl _ _).setCell (by simp) _).setCell (by simp) _).setCell (by simp) _
      · exact (((hb3.trans (K2.out.mono hb3.size)).setCell (p := ⟨w.heap.size + 1, 0, none⟩) (by simp) _).setCell (p := ⟨w.heap.size + 1, 1, none⟩) (by simp) _).setCell (p := ⟨w.heap.size + 1, 2, none⟩) (by simp) _
end Go.Proofs.YtogngcbflhdadaaGreat

/- The contract of the reference's Borda. Printed by gen11c.py. -/
namespace Go.Proofs.YtogngcbflhdadaaGreat
open Go Go.RowKit Go.Shelf

/-- The ballot in a box of its own. -/
def BxR (wr : World) (L : Nat) (a : Option Addr) (c : Nat) (s : Value) (wc : World) : Prop :=
  ∃ g, s = .pointer (some ⟨g, 0, none⟩) ∧ wc.heap[g]? = some (.cells #[.int .u8 1, .slice a L c] 58 (0, 0)) ∧ Below wr.heap.size wr wc ∧ wr.heap.size ≤ g
theorem BxR.laid {wr : World} {L : Nat} {a : Option Addr} {c : Nat} {W : World} (hB : Below wr.heap.size wr W) :
    BxR wr L a c (.pointer (some ⟨W.heap.size, 0, none⟩)) (W.alloc (.cells #[.int .u8 1, .slice a L c] 58)) := ⟨_, rfl, box_new _ _, hB.alloc hB.size _, hB.size⟩
theorem BxR.drew {wr : World} {L : Nat} {a : Option Addr} {c : Nat} {s : Value} {W : World} (h : BxR wr L a c s W) : BxR wr L a c s W.drew := let ⟨g, e, hg, hB, hz⟩ := h; ⟨g, e, hg, hB.drew, hz⟩
theorem bord_val {rows : List Row} {C i x j : Nat} (hi : i < rows.length) {v : Int} (hv : v = hadF 3 (rows.take i) C x + cntP rows[i].marks (x : Int) j * rows[i].many) (hb : 0 ≤ hadF 3 (rows.take i) C x ∧ hadF 3 (rows.take i) C x ≤ 10 * sumR (rows.take i)) (hs : sumR (rows.take (i + 1)) ≤ 1000000)
    (hsn : sumR (rows.take (i + 1)) = sumR (rows.take i) + rows[i].many) (hm : 0 < rows[i].many) (hj : j < 10) : 0 ≤ v + rows[i].many ∧ v + rows[i].many ≤ 10000000 := by
  obtain ⟨c1, c2⟩ := cntP_bound rows[i].marks (x : Int) j
  have h1 : 0 ≤ cntP rows[i].marks (x : Int) j * rows[i].many := Int.mul_nonneg c1 (by omega)
  have h2 : cntP rows[i].marks (x : Int) j * rows[i].many ≤ 9 * rows[i].many := Int.mul_le_mul_of_nonneg_right (by omega) (by omega)
  omega
set_option maxHeartbeats 4000000 in
set_option maxRecDepth 100000 in
theorem r11Borda_bad (S T : Nat → Prop) (u v : Value) (p : Prof) (seats : Int) (lot : List Int) (w : World) (h : VProf S w u p) (hv : RInts T w v lot) (h0 : singleI 3 p seats lot ≠ 0) :
    Calls Tryz.prog 21 #[u, .int .i64 seats, v] w (GivesSI 3 p seats lot w) := by
  have h1 := h
  obtain ⟨a, cap, rfl, -, -, -⟩ := h
  obtain ⟨a2, cap2, rfl, -, -⟩ := RSl.shape hv
  obtain ⟨cands, kind, rows⟩ := p
  simp only at *
  obtain ⟨n, hn⟩ : ∃ n, rows.length = n := ⟨_, rfl⟩
  obtain ⟨nl, hnl⟩ : ∃ n, lot.length = n := ⟨_, rfl⟩
  rw [hn] at h1 ⊢
  rw [hnl] at hv ⊢
  have hb0 : Below w.heap.size w ((w.alloc (.cells #[.int .i64 cands, .int .u8 kind, .slice a n cap] 24)).alloc (.cells #[.slice none 0 0, .slice none 0 0, .slice none 0 0] 32)) := ((Below.refl _ _).alloc (Nat.le_refl _) _).alloc (by simp) _
  have hbx : ((w.alloc (.cells #[.int .i64 cands, .int .u8 kind, .slice a n cap] 24)).alloc (.cells #[.slice none 0 0, .slice none 0 0, .slice none 0 0] 32)).heap[w.heap.size + 1]? = some (.cells #[.slice none 0 0, .slice none 0 0, .slice none 0 0] 32 (0, 0)) := by
    have := box_new (w.alloc (.cells #[.int .i64 cands, .int .u8 kind, .slice a n cap] 24)) (.cells #[.slice none 0 0, .slice none 0 0, .slice none 0 0] 32)
    rwa [World.size_alloc] at this
  have hM := r11May S T _ _ ⟨cands, kind, rows⟩ 1 seats cands lot _ (h1.same (.of_below hb0)) (hv.same (.of_below hb0))
  have hS : singleI 3 ⟨cands, kind, rows⟩ seats lot = countI ⟨cands, kind, rows⟩ 1 seats cands lot := rfl
  obtain ⟨I, hI⟩ : ∃ I, singleI 3 ⟨cands, kind, rows⟩ seats lot = I := ⟨_, rfl⟩
  rw [← hS, hI] at hM
  rw [hI] at h0
  have hV : singleV 3 ⟨cands, kind, rows⟩ seats lot = noO := by rw [singleV, hI, if_neg h0]
  have hG : ∀ w', Below w.heap.size w w' → GivesSI 3 ⟨cands, kind, rows⟩ seats lot w (.returned (.tuple #[.agg #[.slice none 0 0, .slice none 0 0, .slice none 0 0], .int .i64 I])) w' := fun w' hb => ⟨_, by rw [hI], by rw [hV]; exact ⟨_, _, _, rfl, RSl.nil, RSl.nil, RSl.nil⟩, hb⟩
  have hq : (I != 0) = true := by simpa using h0
  have HM := Lib.hid hM; have HG := Lib.hid hG
  clear hM hG hV hS hI h0 h1 hv hn hnl
  go_enter Tryz.func21, Tryz.ntmps21
  go_wp2_with (go_at_call 48; refine HM.out.mono ?_; rintro e w1 ⟨rfl, hb1⟩; have hq1 := hb0.trans (hb1.mono (by simp; omega)); obtain ⟨g1, gc, gf⟩ := own_box hb1 (by simp) hbx; have hlt1 : w.heap.size + 1 < w1.heap.size := size_of_box g1; have Hq1 := Lib.hid hq1)
  refine bodyPost_ret (v := .tuple #[.agg #[.slice none 0 0, .slice none 0 0, .slice none 0 0], .int .i64 I]) (by simp [results, Tryz.results21, go_sem, gc]) rfl (HG.out _ ?_)
  exact ((Hq1.out.setCell (p := ⟨w.heap.size + 1, 0, none⟩) (by simp) _).setCell (p := ⟨w.heap.size + 1, 1, none⟩) (by simp) _).setCell (p := ⟨w.heap.size + 1, 2, none⟩) (by simp) _
set_option maxHeartbeats 1000000 in
set_option maxRecDepth 100000 in
theorem r11Borda_ok (S T : Nat → Prop) (u v : Value) (p : Prof) (seats : Int) (lot : List Int) (w : World) (h : VProf S w u p) (hv : RInts T w v lot) (h0 : singleI 3 p seats lot = 0) :
    Calls Tryz.prog 21 #[u, .int .i64 seats, v] w (GivesSI 3 p seats lot w) := by
  have hC := counted h0
  have h1 := h
  obtain ⟨a, cap, rfl, -, -, hR⟩ := h
  obtain ⟨a2, cap2, rfl, -, -⟩ := RSl.shape hv
  obtain ⟨cands, kind, rows⟩ := p
  obtain ⟨ck, ⟨cc1, cc2⟩, ⟨cs1, cs2⟩, cl, cm, cf, cr, csum⟩ := hC
  simp only at *
  obtain ⟨n, hn⟩ : ∃ n, rows.length = n := ⟨_, rfl⟩
  obtain ⟨nl, hnl⟩ : ∃ n, lot.length = n := ⟨_, rfl⟩
  obtain ⟨C, hCn⟩ : ∃ C : Nat, cands = (C : Int) := ⟨cands.toNat, by omega⟩
  obtain ⟨sn, hsn⟩ : ∃ s : Nat, seats = (s : Int) := ⟨seats.toNat, by omega⟩
  subst hCn hsn
  rw [Int.toNat_natCast] at cl
  rw [hn] at h1 hR ⊢
  rw [hnl] at hv ⊢
  have hb0 : Below w.heap.size w ((w.alloc (.cells #[.int .i64 (C : Int), .int .u8 kind, .slice a n cap] 24)).alloc (.cells #[.slice none 0 0, .slice none 0 0, .slice none 0 0] 32)) := ((Below.refl _ _).alloc (Nat.le_refl _) _).alloc (by simp) _
  have hbp : ((w.alloc (.cells #[.int .i64 (C : Int), .int .u8 kind, .slice a n cap] 24)).alloc (.cells #[.slice none 0 0, .slice none 0 0, .slice none 0 0] 32)).heap[w.heap.size]? = some (.cells #[.int .i64 (C : Int), .int .u8 kind, .slice a n cap] 24 (0, 0)) := box_old _ (box_new w _)
  have hbx : ((w.alloc (.cells #[.int .i64 (C : Int), .int .u8 kind, .slice a n cap] 24)).alloc (.cells #[.slice none 0 0, .slice none 0 0, .slice none 0 0] 32)).heap[w.heap.size + 1]? = some (.cells #[.slice none 0 0, .slice none 0 0, .slice none 0 0] 32 (0, 0)) := by
    have := box_new (w.alloc (.cells #[.int .i64 (C : Int), .int .u8 kind, .slice a n cap] 24)) (.cells #[.slice none 0 0, .slice none 0 0, .slice none 0 0] 32)
    rwa [World.size_alloc] at this
  have hM := r11May S T _ _ ⟨(C : Int), kind, rows⟩ 1 sn C lot _ (h1.same (.of_below hb0)) (hv.same (.of_below hb0))
  have hS : singleI 3 ⟨(C : Int), kind, rows⟩ sn lot = countI ⟨(C : Int), kind, rows⟩ 1 sn C lot := rfl
  rw [← hS, h0] at hM
  have hV : singleV 3 ⟨(C : Int), kind, rows⟩ sn lot = oneO (fl C (hadF 3 rows C)) (lostS 3 rows) sn lot := by rw [singleV, h0, if_pos rfl]; simp only [Int.toNat_natCast, hadL_fl]
  have hH := fun W (hW : Below w.heap.size w W) => hR.same (.of_below hW)
  have hVv := fun W (hW : Below w.heap.size w W) => hv.same (.of_below hW)
  have hmk := run_make_row' (P := Tryz.prog) 25 3 (.int .i64 0) 8 Tryz.underlying25 Tryz.infoInt rfl .i64 .i64 C (by omega) (by omega)
  have hO := fun (W : World) (had : Value) (lost : Nat) (hd : RInts Any W had (fl C (hadF 3 rows C))) (hl : (lost : Int) = lostS 3 rows) (hW : Below w.heap.size w W) => (r11One Any T had _ (fl C (hadF 3 rows C)) lot lost sn W hd (hVv W hW) (by rw [fl_length]; exact cl) (by rw [fl_length]; omega) (by rw [fl_length]; omega)
    (fun x hx => by
      obtain ⟨i, hi, rfl⟩ := List.getElem_of_mem hx
      rw [fl_get]
      have := hadF_bound (rule := 3) (rows := rows) (c := C) (x := i) (m := 10) (by omega) (fun r hr => ⟨by have := cm r hr; omega, (give3_bound ck (cf r hr) (by omega)).1, (give3_bound ck (cf r hr) (by omega)).2⟩)
      omega)
    (by have := lostS_bound (rule := 3) (rows := rows) (fun r hr => by have := cm r hr; omega); omega)).mono fun e w' ⟨vo, k1, k2, k3⟩ => (show ∃ b1 m1 c1 b2 m2 c2 b3 m3 c3, e = Ending.returned (.agg #[.slice b1 m1 c1, .slice b2 m2 c2, .slice b3 m3 c3]) ∧ VOutc (From W.heap.size) w' (.agg #[.slice b1 m1 c1, .slice b2 m2 c2, .slice b3 m3 c3]) (singleV 3 ⟨(C : Int), kind, rows⟩ sn lot) ∧ Below W.heap.size W w' from by
      rw [hl, ← hV] at k2
      obtain ⟨x1, x2, x3, rfl, q1, q2, q3⟩ := k2
      obtain ⟨b1, m1, c1, rfl⟩ := RSl.slice q1
      obtain ⟨b2, m2, c2, rfl⟩ := RSl.slice q2
      obtain ⟨b3, m3, c3, rfl⟩ := RSl.slice q3
      exact ⟨_, _, _, _, _, _, _, _, _, k1, ⟨_, _, _, rfl, q1, q2, q3⟩, k3⟩)
  have hG : ∀ (W w3 : World) (x : Value) (w' : World), VOutc (From W.heap.size) w3 x (singleV 3 ⟨(C : Int), kind, rows⟩ sn lot) → w.heap.size + 1 < W.heap.size → Same (fun b => b ≠ w.heap.size + 1) w3 w' → Below w.heap.size w w' → GivesSI 3 ⟨(C : Int), kind, rows⟩ sn lot w (.returned (.tuple #[x, .int .i64 0])) w' := fun W w3 x w' k1 k2 k3 k4 =>
    ⟨x, by rw [h0], VOutc.mono (fun b hb => Nat.le_trans (by omega) hb) (k1.same (k3.mono fun b hb e => by have : W.heap.size ≤ b := hb; omega)), k4⟩
  have hC10 : C ≤ 10 := by omega
  have hmark : ∀ k (hk : k < rows.length), rows[k].marks.Nodup ∧ (∀ m ∈ rows[k].marks, 0 ≤ m ∧ m < C) ∧ rows[k].marks.length ≤ C := fun k hk => rank_marks ck (cf _ (List.getElem_mem hk))
  have hbound : ∀ k x, 0 ≤ hadF 3 (rows.take k) C x ∧ hadF 3 (rows.take k) C x ≤ 10 * sumR (rows.take k) := fun k x =>
    hadF_bound (rule := 3) (rows := rows.take k) (c := C) (x := x) (m := 10) (by omega) (fun r hr => ⟨by have := cm r (List.mem_of_mem_take hr); omega, (give3_bound ck (cf r (List.mem_of_mem_take hr)) hC10).1, (give3_bound ck (cf r (List.mem_of_mem_take hr)) hC10).2⟩)
  have hsumk : ∀ k, sumR (rows.take k) ≤ 1000000 ∧ 0 ≤ sumR (rows.take k) := fun k => by
    have := sumR_takeLe (l := rows) (fun r hr => by have := cm r hr; omega) k
    omega
  have hsnoc : ∀ k (hk : k < rows.length), sumR (rows.take (k + 1)) = sumR (rows.take k) + rows[k].many := fun k hk => sumR_snoc hk
  have Hmark := Lib.hid hmark; have Hbound := Lib.hid hbound; have Hsumk := Lib.hid hsumk; have Hsnoc := Lib.hid hsnoc
  clear hmark hbound hsumk hsnoc
  have hn64 : n ≤ 64 := by rw [← hn]; exact cr
  have Hk1 := Lib.hid (show kind = 1 from ck)
  have HM := Lib.hid hM; have HG := Lib.hid hG; have HO := Lib.hid hO; have HH := Lib.hid hH; have Hn := Lib.hid hn; have Hcm := Lib.hid cm; have Hcf := Lib.hid cf; have Hsum := Lib.hid csum; have Hbx := Lib.hid hbx; have Hbp := Lib.hid hbp
  clear hM hG hO hH hV hVv hS h0 h1 hv hn hnl hR cl cm cf csum cs1 cs2 hbx hbp cr ck
  have hk1 : kind = 1 := Hk1.out
  clear Hk1
  subst hk1
  go_enter Tryz.func21, Tryz.ntmps21
  go_wp2_with (go_at_call 48; refine HM.out.mono ?_; rintro e w1 ⟨rfl, hbM⟩; have hq1 := hb0.trans (hbM.mono (by simp; omega)); obtain ⟨g1, gc, gf⟩ := own_box hbM (by simp) Hbx.out; obtain ⟨p1, pc, -⟩ := own_box hbM (by simp; omega) Hbp.out; have pc0 := pc 0; have pc1 := pc 1; have pc2 := pc 2; have hlt1 : w.heap.size + 1 < w1.heap.size := size_of_box g1; have G1 := Lib.hid g1; have P1 := Lib.hid p1; clear pc gc gf g1 p1)
  have hA0 := Arr.madeN (k := .i64) w1 C 3
  have hz1 := hq1.size
  clear pc0 pc1 pc2
  go_loopw [10, 11, 12, 13] (fun ii _ _ _ wr => ∃ i : Nat, i ≤ n ∧ ii = .int .i64 i ∧ Hid (Arr .i64 wr w1.heap.size 3 (fl C (hadF 3 (rows.take i) C))) ∧ Below w1.heap.size w1 wr) (fun ii _ _ _ _ => n - (intOf ii).toNat)
  case atStart =>
    refine ⟨0, Nat.zero_le _, rfl, Lib.hid ?_, below_new _ _⟩
    have e : fl C (hadF 3 (rows.take 0) C) = List.replicate C 0 := (fl_congr fun x _ => by rw [List.take_zero, hadF_nil]).trans (fl_zero C)
    rw [e]; exact hA0
  case round =>
    obtain ⟨i, hi, rfl, hA, hb⟩ := hrel
    have hbw : Below w.heap.size w wr := hq1.trans (hb.mono hz1)
    have gp := (hb.block _ (by omega)).trans P1.out
    obtain ⟨-, pcr, -⟩ := own_box (Below.refl _ wr) (size_of_box gp) gp
    have pc0 : wr.cell? ⟨w.heap.size, 0, none⟩ = some (.int .i64 (C : Int)) := pcr 0
    have pc1 : wr.cell? ⟨w.heap.size, 1, none⟩ = some (.int .u8 1) := pcr 1
    have pc2 : wr.cell? ⟨w.heap.size, 2, none⟩ = some (.slice a n cap) := pcr 2
    clear gp pcr
    by_cases hlt : i < n
    · have hlr : i < rows.length := by rw [Hn.out]; exact hlt
      obtain ⟨b, off, cc, dd, rfl, hS, hbw0, hc, hd, hxr⟩ := RSl.at2 (HH.out wr hbw) i hlr
      obtain ⟨ax, capx, rfl, rfl, -, -, hI⟩ := hxr.open
      obtain ⟨b', off', _, _, eb, -, hbw', -⟩ := RSl.at2 (HH.out w (Below.refl _ _)) i hlr
      simp only [Option.some.injEq, Addr.mk.injEq, and_true] at eb
      obtain ⟨rfl, rfl⟩ := eb
      have hcw : w.cell? ⟨b, off + i * 2, none⟩ = some (.slice ax rows[i].marks.length capx) := ((hbw.cell (p := ⟨b, _, none⟩) hbw').symm).trans hc
      have hdw : w.cell? ⟨b, off + i * 2 + 1, none⟩ = some (.int .i64 rows[i].many) := ((hbw.cell (p := ⟨b, _, none⟩) hbw').symm).trans hd
      have hIw : RInts S w (.slice ax rows[i].marks.length capx) rows[i].marks := by
        obtain ⟨b9, off9, c9, d9, e9, -, -, k1, -, k3⟩ := RSl.at2 (HH.out w (Below.refl _ _)) i hlr
        simp only [Option.some.injEq, Addr.mk.injEq, and_true] at e9
        obtain ⟨rfl, rfl⟩ := e9
        obtain ⟨a9, cap9, rfl, -, -, -, k4⟩ := k3.open
        rw [hcw] at k1
        simp only [Option.some.injEq, Value.slice.injEq] at k1
        obtain ⟨rfl, -, rfl⟩ := k1
        exact k4
      obtain ⟨L, hL⟩ : ∃ L, rows[i].marks.length = L := ⟨_, rfl⟩
      rw [hL] at hc hIw
      have HIw := Lib.hid hIw; have Hdw := Lib.hid hdw
      clear hI hxr hL hcw hdw hIw
      have hzr := hbw.size
      have hbr : b < wr.heap.size := hbw0
      have hwr0 : w.heap.size < wr.heap.size := lt_of_cell pc0
      go_upto_region 8 with fail
      go_cut [11] from 34 to 72 (fun s wc => BxR wr L ax capx s wc)
      case first =>
        go_region_law (fail)
        all_goals
          go_wp2_with fail
          go_meet
          first
          | exact BxR.laid (Below.drew (Below.refl _ _))
          | exact (BxR.laid (Below.refl _ _)).drew
      case rest =>
        obtain ⟨g, rfl, hbx3, hbc, hgw⟩ := hcut
        have hb1c : Below w1.heap.size w1 wc := hb.trans (hbc.mono hb.size)
        have hAc := Lib.hid (hA.out.below hbc)
        have hgA : w1.heap.size < g := Nat.lt_of_lt_of_le hA.out.lt hgw
        have Hbx3 := Lib.hid hbx3
        clear hbx3 hbc pc0 pc1 pc2 hc hd hA hb hbw hgw hzr hbr hwr0
        go_wp2
        go_loopw [12, 13] (fun xi _ W => ∃ x : Nat, x ≤ C ∧ xi = .int .i64 x ∧ Hid (Arr .i64 W w1.heap.size 3 (fl C (bordF (hadF 3 (rows.take i) C) rows[i].marks rows[i].many C x 0))) ∧ Below w1.heap.size w1 W ∧ Hid (W.heap[g]? = some (.cells #[.int .u8 1, .slice ax L capx] 58 (0, 0)))) (fun xi _ _ => C - (intOf xi).toNat)
        case atStart => exact ⟨0, Nat.zero_le _, rfl, Lib.hid (by rw [bord_start]; exact hAc.out), hb1c, Hbx3⟩
        case round =>
          clear hAc hb1c Hbx3
          obtain ⟨x, hx, rfl, hA, hb, hG⟩ := hrel
          have gp := (hb.block _ (by omega)).trans P1.out
          obtain ⟨-, pcr, -⟩ := own_box (Below.refl _ wr) (size_of_box gp) gp
          have pc0 : wr.cell? ⟨w.heap.size, 0, none⟩ = some (.int .i64 (C : Int)) := pcr 0
          clear gp pcr
          by_cases hltx : x < C
          · have hxC : (x : Int) < C := by omega
            go_wp2
            obtain ⟨wo, rfl⟩ : ∃ q, q = wr := ⟨_, rfl⟩
            clear pc0
            go_loopw [13] (fun yi W => ∃ y : Nat, y ≤ C ∧ yi = .int .i64 y ∧ Hid (Arr .i64 W w1.heap.size 3 (fl C (bordF (hadF 3 (rows.take i) C) rows[i].marks rows[i].many C x y))) ∧ Below w1.heap.size w1 W ∧ Hid (W.heap[g]? = some (.cells #[.int .u8 1, .slice ax L capx] 58 (0, 0)))) (fun yi _ => C - (intOf yi).toNat)
            case atStart => exact ⟨0, Nat.zero_le _, rfl, hA, hb, hG⟩
            case round =>
              clear hA hb hG
              obtain ⟨y, hy, rfl, hA, hb, hG⟩ := hrel
              have hbw : Below w.heap.size w wr := hq1.trans (hb.mono hz1)
              have gp := (hb.block _ (by omega)).trans P1.out
              obtain ⟨-, pcr, -⟩ := own_box (Below.refl _ wr) (size_of_box gp) gp
              have pc0 : wr.cell? ⟨w.heap.size, 0, none⟩ = some (.int .i64 (C : Int)) := pcr 0
              clear pcr
              by_cases hlty : y < C
              · have hyC : (y : Int) < C := by omega
                obtain ⟨-, bcr, -⟩ := own_box (Below.refl _ wr) (size_of_box hG.out) hG.out
                have bc0 : wr.cell? ⟨g, 0, none⟩ = some (.int .u8 1) := bcr 0
                have bc1 : wr.cell? ⟨g, 1, none⟩ = some (.slice ax L capx) := bcr 1
                have hPr := r08Prefers S (.agg #[.int .u8 1, .slice ax L capx]) rows[i].marks x y wr ⟨_, _, rfl, _, rfl, by show (0 : Int) ≤ 1; omega, by show (1 : Int) ≤ 255; omega, HIw.out.same (.of_below hbw)⟩
                have hglt := size_of_box hG.out
                have hval := fun (v : Int) hv => bord_val (v := v) (C := C) (x := x) (j := y) hlr hv (Hbound.out i x) (Hsumk.out (i + 1)).1 (Hsnoc.out i hlr) (Hcm.out _ (List.getElem_mem hlr)) (by omega)
                have Gp := Lib.hid gp
                clear bcr gp
                cases hp : prefB rows[i].marks (x : Int) (y : Int)
                · rw [hp] at hPr
                  have hsk := bord_skip (h := hadF 3 (rows.take i) C) (many := rows[i].many) (C := C) hp
                  have HPr := Lib.hid hPr; have Hsk := Lib.hid hsk
                  clear hPr hsk hp hval
                  go_wp2_with (go_at_call 53; refine HPr.out.mono ?_; rintro e w2 ⟨rfl, hb2⟩; have hA2 := Lib.hid (hA.out.below hb2); have hG2 := Lib.hid ((hb2.block _ hglt).trans hG.out); have hbb := hb.trans (hb2.mono hb.size))
                  exact ⟨⟨y + 1, by omega, by go_num, Lib.hid (by rw [Hsk.out]; exact hA2.out), hbb, hG2⟩, by simp [intOf]; omega⟩
                · rw [hp] at hPr
                  have hst := bord_step (h := hadF 3 (rows.take i) C) (many := rows[i].many) (C := C) hp
                  obtain ⟨hv, hhv⟩ : ∃ v, hadF 3 (rows.take i) C x + cntP rows[i].marks (x : Int) y * rows[i].many = v := ⟨_, rfl⟩
                  rw [hhv] at hst
                  have hvv := hval hv hhv.symm
                  have hgt := fun (h : x < (fl C (bordF (hadF 3 (rows.take i) C) rows[i].marks rows[i].many C x y)).length) => bord_get h
                  rw [hhv] at hgt
                  have hcell := fun W (hW : Arr .i64 W w1.heap.size 3 (fl C (bordF (hadF 3 (rows.take i) C) rows[i].marks rows[i].many C x y))) => (show W.cell? ⟨w1.heap.size, x, none⟩ = some (.int .i64 hv) ∧ W.frozen? ⟨w1.heap.size, x, none⟩ = false ∧ w1.heap.size < W.heap.size from by
                    have := hW.cell (i := x) (by rw [fl_length]; omega)
                    rw [hgt] at this
                    exact ⟨this, hW.frozen x, hW.lt⟩)
                  have hrow := fun W (hW : Below w.heap.size w W) => (hW.cell (p := ⟨b, off + i * 2 + 1, none⟩) hbw').trans Hdw.out
                  obtain ⟨many, hme⟩ : ∃ m, rows[i].many = m := ⟨_, rfl⟩
                  rw [hme] at hvv hst hrow
                  have hA' := hA.out
                  rw [hme] at hA' hcell
                  have HA := Lib.hid hA'
                  have s1 : 0 ≤ hv + many := hvv.1
                  have s2 : hv + many ≤ 10000000 := hvv.2
                  have HPr := Lib.hid hPr; have Hst := Lib.hid hst; have Hcell := Lib.hid hcell; have Hrow := Lib.hid hrow; have Hme := Lib.hid hme
                  clear hPr hst hcell hrow hp hval hvv hgt hhv hA' hme hA
                  go_wp2_with (go_at_call 53; refine HPr.out.mono ?_; rintro e w2 ⟨rfl, hb2⟩; have hA2 := HA.out.below hb2; have hG2 := (hb2.block _ hglt).trans hG.out; have hbb := hb.trans (hb2.mono hb.size); have hbw2 := hbw.trans (hb2.mono hbw.size); obtain ⟨v1, v2, v3⟩ := Hcell.out _ hA2; have v4 := Hrow.out _ hbw2; have gp2 := (hb2.block _ (size_of_box Gp.out)).trans Gp.out; have pc2 : w2.cell? ⟨w.heap.size, 2, none⟩ = some (.slice (some ⟨b, off, none⟩) n cap) := (own_box (Below.refl _ w2) (size_of_box gp2) gp2).2.1 2; have hblt : b < w2.heap.size := (by have := hbw2.size; omega); have HA2 := Lib.hid hA2; have HG2 := Lib.hid hG2; clear gp2 hA2 hG2)
                  go_still_tail 13, (by kernel_rfl)
                  go_wp2
                  refine ⟨⟨y + 1, by omega, by go_num, Lib.hid ?_, (hbb.drew).setCell (p := ⟨w1.heap.size, x, none⟩) (Nat.le_refl _) _, Lib.hid ((Below.heap_setCell w2.drew ⟨w1.heap.size, x, none⟩ _ g (Nat.ne_of_gt hgA)).trans HG2.out)⟩, by simp [intOf]; omega⟩
                  rw [Hme.out, Hst.out]
                  exact Arr.set (show Arr .i64 w2.drew _ _ _ from HA2.out) _ _
              · obtain rfl : y = C := by omega
                have hst := bord_next (h := hadF 3 (rows.take i) y) (many := rows[i].many) (x := x) (Hmark.out i hlr).1 (Hmark.out i hlr).2.1
                have Hst := Lib.hid hst
                clear hst
                go_wp2
                exact ⟨⟨x + 1, by omega, by go_num, Lib.hid (by rw [← Hst.out]; exact hA.out), hb, hG⟩, by simp [intOf]; omega⟩
          · obtain rfl : x = C := by omega
            have hst := bord_end (C := x) hlr
            have Hst := Lib.hid hst
            clear hst
            go_wp2
            exact ⟨⟨i + 1, by omega, by go_num, Lib.hid (by rw [← Hst.out]; exact hA.out), hb⟩, by simp [intOf]; omega⟩
    · obtain rfl : i = n := by omega
      have hfull : Arr .i64 wr w1.heap.size 3 (fl C (hadF 3 rows C)) := by have := hA.out; rwa [List.take_of_length_le (by rw [Hn.out]; exact Nat.le_refl _)] at this
      have hbz : ∀ i, 0 ≤ hadF 3 rows C i ∧ hadF 3 rows C i ≤ 10000000 := fun i => by
        have h1 := Hbound.out rows.length i
        have h2 := Hsumk.out rows.length
        rw [List.take_length] at h1 h2
        omega
      have hlq : ((0 : Nat) : Int) = lostS 3 rows := (lostS_zero (by omega) rows).symm
      have hb3 : Below w.heap.size w wr := hq1.trans (hb.mono hz1)
      have Hone := Lib.hid (HO.out wr _ 0 (hfull.all (S := Any) trivial (fun x hx => by obtain ⟨i, hi, rfl⟩ := List.getElem_of_mem hx; rw [fl_get]; exact WalkArith.wf_i64 (by have := hbz i; omega)) (by rw [fl_length]; omega) (n := C) (cap := C) (by rw [fl_length]) (Nat.le_refl _)) hlq hb3)
      rw [show ((0 : Nat) : Int) = 0 from rfl] at Hone
      have gO := (hb.block _ (by omega)).trans G1.out
      have hltr : w.heap.size + 1 < wr.heap.size := size_of_box gO
      have GO := Lib.hid gO
      clear gO hlq hbz hfull hA
      go_wp2_with (go_at_call 49; refine Hone.out.mono ?_; rintro e w3 ⟨b1, m1, c1, b2, m2, c2, b3, m3, c3, rfl, k1, k2⟩; obtain ⟨g3, gc3, gf3⟩ := own_box k2 hltr GO.out; have hlt3 : w.heap.size + 1 < w3.heap.size := size_of_box g3; have K1 := Lib.hid k1; have K2 := Lib.hid k2; clear k1 k2)
      refine bodyPost_ret (v := .tuple #[.agg #[.slice b1 m1 c1, .slice b2 m2 c2, .slice b3 m3 c3], .int .i64 0]) (by simp [results, Tryz.results21, go_sem, gc3]) rfl (HG.out wr w3 _ _ K1.out hltr ?_ ?_)
      · exact (((Same.refl _ _).setCell (by simp) _).setCell (by simp) _).setCell (by simp) _
      · exact (((hb3.trans (K2.out.mono hb3.size)).setCell (p := ⟨w.heap.size + 1, 0, none⟩) (by simp) _).setCell (p := ⟨w.heap.size + 1, 1, none⟩) (by simp) _).setCell (p := ⟨w.heap.size + 1, 2, none⟩) (by simp) _
end Go.Proofs.YtogngcbflhdadaaGreat
