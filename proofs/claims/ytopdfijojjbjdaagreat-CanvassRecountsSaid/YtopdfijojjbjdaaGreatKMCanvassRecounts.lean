/- The law CanvassRecounts returns true whatever the input, and every argument reads behind the call as it read before. No condition. -/
import Derived.Test.YtopdfijojjbjdaaGreatKGCan
import Derived.Test.YtopdfijojjbjdaaGreatKGProf
import Derived.Test.YtopdfijojjbjdaaGreatKGRep
import Derived.Test.YtopdfijojjbjdaaGreatKGAdd
import Derived.Test.YtopdfijojjbjdaaGreatKGSame
import Derived.Test.YtopdfijojjbjdaaGreatKGTal
import Derived.Test.YtopdfijojjbjdaaGreatKGTell
import Derived.Test.YtopdfijojjbjdaaGreatRows
import Derived.Test.YtopdfijojjbjdaaGreatKGFoot
import Derived.Lib.SliceRun
import Derived.Deep.RegionLaw
import Derived.Shelf.RegionOpenPlain
import Derived.Deep.CutRange
import Derived.Handy
import Derived.WalkKit
import Derived.ProofKit
import Derived.OpenShut
import Derived.ShutString
import Derived.ChangeOld
import Derived.Below

/- Counts compared with each other: plain laws on the answers of Compare; no program. -/
namespace Go.Proofs.YtopdfijojjbjdaaGreat
open Go Go.RowKit Go.Shelf

theorem fitI_zero {a b : List Btc} {c kind : Int} : fitI a b c kind = 0 ↔ recCheck a c kind = 0 ∧ recCheck b c kind = 0 ∧ eqL eqSlot (maniL a) (maniL b) = true := by
  constructor
  · intro h; exact (fitted h).2
  · rintro ⟨h1, h2, h3⟩
    rw [fitI, fit3, if_pos h1, if_pos h2, if_pos h3]
theorem difRow_nil {i : Nat} {xs ys : List Blt} {n : Nat} : difRow i xs ys n = [] ↔ ∀ k, k < n → eqBlt (xs.getD k zB) (ys.getD k zB) = true := by
  unfold difRow
  rw [List.map_eq_nil_iff, List.filter_eq_nil_iff]
  simp
theorem places_nil {a b : List Btc} {c kind : Int} (h0 : fitI a b c kind = 0) : placesL a b = [] ↔ eqL eqBtc a b = true := by
  obtain ⟨hf, -, -, hs⟩ := fitted h0
  unfold placesL difAll
  rw [List.flatMap_eq_nil_iff]
  constructor
  · intro h
    refine eqL_of hf.1 fun k h1 h2 => ?_
    have hr := difRow_nil.1 (h k (List.mem_range.2 h1))
    rw [getD_at zC h1, getD_at zC h2] at hr
    have hm := eqL_get hs k (by simpa [maniL] using h1) (by simpa [maniL] using h2)
    simp only [maniL, List.getElem_map, eqSlot, Bool.and_eq_true] at hm
    rw [eqBtc, hm.1, Bool.true_and]
    refine eqL_of (hf.2 k h1 h2) fun j j1 j2 => ?_
    have := hr j j1
    rwa [getD_at zB j1, getD_at zB j2] at this
  · intro h k hk
    have h1 := List.mem_range.1 hk
    have h2 : k < b.length := by rw [← hf.1]; exact h1
    rw [difRow_nil, getD_at zC h1, getD_at zC h2]
    intro j j1
    have hb := eqL_get h k h1 h2
    rw [eqBtc, Bool.and_eq_true] at hb
    have j2 : j < b[k].blts.length := by rw [← hf.2 k h1 h2]; exact j1
    rw [getD_at zB j1, getD_at zB j2]
    exact eqL_get hb.2 j j1 j2
end Go.Proofs.YtopdfijojjbjdaaGreat

/- A recount: what Compare's places are to the two tallies, and what Replace makes of them: plain laws; no program. -/
namespace Go.Proofs.YtopdfijojjbjdaaGreat
open Go Go.RowKit Go.Shelf

theorem eqInts_eq : ∀ {xs ys : List Int}, eqL eqInt xs ys = true → xs = ys := by
  intro xs ys h
  refine List.ext_getElem (eqL_len h) fun i h1 h2 => ?_
  simpa [eqInt] using eqL_get h i h1 h2
theorem eqBlt_eq {x y : Blt} (h : eqBlt x y = true) : x = y := by
  cases x; cases y
  simp only [eqBlt, Bool.and_eq_true, decide_eq_true_eq] at h
  obtain ⟨rfl, h2⟩ := h
  rw [eqInts_eq h2]
theorem eqBlts_eq {xs ys : List Blt} (h : eqL eqBlt xs ys = true) : xs = ys :=
  List.ext_getElem (eqL_len h) fun i h1 h2 => eqBlt_eq (eqL_get h i h1 h2)
theorem sameName_is {a b : ByteArray} (h : sameName a b = true) : a = b := by
  rw [sameName_eq, decide_eq_true_eq] at h
  cases a; cases b
  congr 1
  exact Array.ext' h
theorem eqBtc_eq {x y : Btc} (h : eqBtc x y = true) : x = y := by
  cases x; cases y
  simp only [eqBtc, Bool.and_eq_true] at h
  rw [sameName_is h.1, eqBlts_eq h.2]
/-- The ballot at a place; its marks. -/
def bltP (l : List Btc) (p : Place) : Blt := (l.getD p.batch.toNat zC).blts.getD p.place.toNat zB
def mkP (l : List Btc) (p : Place) : List Int := (bltP l p).marks
def rowP (l : List Blt) (n : Nat) : List (List Int) := (l.take n).map Blt.marks
theorem rowP_succ {l : List Blt} {n : Nat} (h : n < l.length) (m : List Int) : occ (rowP l (n + 1)) m = occ (rowP l n) m + if l[n].marks = m then 1 else 0 := by
  rw [rowP, List.take_succ_eq_append_getElem h, List.map_append, occ_append]
  simp [rowP, occ]
/-- Row against row. -/
theorem dif_row {a b : List Btc} {i : Nat} (h1 : i < a.length) (h2 : i < b.length) (he : a[i].blts.length = b[i].blts.length) (m : List Int) : ∀ n, n ≤ a[i].blts.length →
    occ (rowP a[i].blts n) m + occ ((difRow i a[i].blts b[i].blts n).map (mkP b)) m = occ (rowP b[i].blts n) m + occ ((difRow i a[i].blts b[i].blts n).map (mkP a)) m ∧
      occ ((difRow i a[i].blts b[i].blts n).map (mkP a)) m ≤ occ (rowP a[i].blts n) m
  | 0, _ => by simp [difRow, rowP, occ]
  | n + 1, hn => by
    obtain ⟨k1, k2⟩ := dif_row h1 h2 he m n (by omega)
    have g1 : n < a[i].blts.length := by omega
    have g2 : n < b[i].blts.length := by omega
    rw [rowP_succ g1, rowP_succ g2]
    cases hq : eqBlt a[i].blts[n] b[i].blts[n]
    · rw [difRow_ne g1 g2 hq, List.map_append, List.map_append, occ_append, occ_append]
      have e1 : mkP a ⟨(i : Int), (n : Int)⟩ = a[i].blts[n].marks := by
        show (((a.getD (i : Int).toNat zC).blts).getD (n : Int).toNat zB).marks = _
        rw [Int.toNat_natCast, Int.toNat_natCast, getD_at zC h1, getD_at zB g1]
      have e2 : mkP b ⟨(i : Int), (n : Int)⟩ = b[i].blts[n].marks := by
        show (((b.getD (i : Int).toNat zC).blts).getD (n : Int).toNat zB).marks = _
        rw [Int.toNat_natCast, Int.toNat_natCast, getD_at zC h2, getD_at zB g2]
      simp only [List.map_cons, List.map_nil, occ_cons, occ_nil, e1, e2]
      omega
    · rw [difRow_eq g1 g2 hq, eqBlt_eq hq]
      have hif : (0 : Int) ≤ if b[i].blts[n].marks = m then (1 : Int) else 0 := by split <;> omega
      omega
theorem rowsOf_takeS {l : List Btc} {n : Nat} (h : n < l.length) : rowsOf (l.take (n + 1)) = rowsOf (l.take n) ++ rowP l[n].blts l[n].blts.length := by
  rw [List.take_succ_eq_append_getElem h, rowsOf_append, rowsOf_cons, rowsOf_nil, List.append_nil, rowP, List.take_length]
theorem dif_all {a b : List Btc} (hf : Fitted a b) (m : List Int) : ∀ n, n ≤ a.length →
    occ (rowsOf (a.take n)) m + occ ((difAll a b n).map (mkP b)) m = occ (rowsOf (b.take n)) m + occ ((difAll a b n).map (mkP a)) m ∧ occ ((difAll a b n).map (mkP a)) m ≤ occ (rowsOf (a.take n)) m
  | 0, _ => by simp [difAll, rowsOf, occ]
  | n + 1, hn => by
    obtain ⟨k1, k2⟩ := dif_all hf m n (by omega)
    have g1 : n < a.length := by omega
    have g2 : n < b.length := by have := hf.1; omega
    have he := hf.2 n g1 g2
    obtain ⟨r1, r2⟩ := dif_row g1 g2 he m _ (Nat.le_refl _)
    rw [rowsOf_takeS g1, rowsOf_takeS g2, difAll_succ g1 g2, List.map_append, List.map_append, occ_append, occ_append, occ_append, occ_append]
    rw [← he]
    omega
/-- The tallies differ by the ballots at the places. -/
theorem places_occ {a b : List Btc} (hf : Fitted a b) (m : List Int) :
    occ (rowsOf a) m + occ ((placesL a b).map (mkP b)) m = occ (rowsOf b) m + occ ((placesL a b).map (mkP a)) m ∧ occ ((placesL a b).map (mkP a)) m ≤ occ (rowsOf a) m := by
  obtain ⟨h1, h2⟩ := dif_all hf m a.length (Nat.le_refl _)
  have e : b.take a.length = b := by rw [hf.1, List.take_length]
  rw [List.take_length] at h1 h2
  rw [e] at h1
  exact ⟨h1, h2⟩
/-- Where the places lie. -/
theorem places_at {a b : List Btc} {p : Place} (h : p ∈ placesL a b) : ∃ (i j : Nat), p = ⟨(i : Int), (j : Int)⟩ ∧ ∃ (h1 : i < a.length), j < a[i].blts.length := by
  obtain ⟨i, hi, hp⟩ := List.mem_flatMap.1 h
  have hi := List.mem_range.1 hi
  unfold difRow at hp
  obtain ⟨j, hj, rfl⟩ := List.mem_map.1 hp
  have hj := List.mem_range.1 (List.mem_filter.1 hj).1
  rw [getD_at zC hi] at hj
  exact ⟨i, j, rfl, hi, hj⟩
theorem occ_take_le (l : List (List Int)) (k : Nat) (m : List Int) : occ (l.take k) m ≤ occ l m := by
  have := occ_append (l.take k) (l.drop k) m
  rw [List.take_append_drop] at this
  have := occ_nonneg (l.drop k) m
  omega
theorem occ_count (l : List (List Int)) (m : List Int) : occ l m = (l.count m : Int) := by
  induction l with
  | nil => rfl
  | cons x l ih =>
    rw [occ_cons, List.count_cons, ih]
    by_cases e : x = m
    · subst e; simp; omega
    · simp [e]
theorem dif_len {a b : List Btc} (hf : Fitted a b) : ∀ n, n ≤ a.length → (difAll a b n).length ≤ (rowsOf (a.take n)).length
  | 0, _ => by simp [difAll, rowsOf]
  | n + 1, hn => by
    have k1 := dif_len hf n (by omega)
    have g1 : n < a.length := by omega
    have g2 : n < b.length := by have := hf.1; omega
    have := difRow_len n a[n].blts b[n].blts a[n].blts.length
    rw [rowsOf_takeS g1, difAll_succ g1 g2, List.length_append, List.length_append, rowP, List.length_map, List.take_length]
    omega
theorem places_len {a b : List Btc} (hf : Fitted a b) : (placesL a b).length ≤ (rowsOf a).length := by
  have := dif_len hf a.length (Nat.le_refl _)
  rwa [List.take_length] at this
/-- What is left of a, the first k ballots at the places taken off. -/
def leftA (a b : List Btc) (k : Nat) : List (List Int) := (((placesL a b).map (mkP a)).take k).foldl List.erase (rowsOf a)
theorem strip_sub : ∀ (ms l : List (List Int)), List.Sublist (ms.foldl List.erase l) l
  | [], l => List.Sublist.refl l
  | x :: ms, l => (strip_sub ms (l.erase x)).trans List.erase_sublist
theorem strip_occ : ∀ (ms l : List (List Int)), (∀ m, occ ms m ≤ occ l m) → ∀ m, occ (ms.foldl List.erase l) m = occ l m - occ ms m
  | [], l, _, m => by simp [occ]
  | x :: ms, l, h, m => by
    have he : ∀ m, occ (l.erase x) m = occ l m - if x = m then 1 else 0 := fun m => by
      have h1 := h x
      have h0 := occ_nonneg ms x
      rw [occ_cons, if_pos rfl] at h1
      rw [occ_count, occ_count, List.count_erase]
      by_cases e : x = m
      · subst e
        rw [occ_count l] at h1
        simp
        omega
      · simp [e]
    rw [List.foldl_cons, strip_occ ms (l.erase x) (fun m => by have := h m; rw [occ_cons] at this; rw [he]; omega) m, he, occ_cons]
    omega
theorem leftA_occ {a b : List Btc} (hf : Fitted a b) (k : Nat) (m : List Int) : occ (leftA a b k) m = occ (rowsOf a) m - occ (((placesL a b).map (mkP a)).take k) m :=
  strip_occ _ _ (fun m => Int.le_trans (occ_take_le _ k m) (places_occ hf m).2) m
theorem leftA_len (a b : List Btc) (k : Nat) : (leftA a b k).length ≤ (rowsOf a).length := (strip_sub _ _).length_le
/-- What is left of a, with the first k ballots of b at the places. -/
def withB (a b : List Btc) (k : Nat) : List (List Int) := leftA a b (placesL a b).length ++ ((placesL a b).map (mkP b)).take k
theorem withB_occ {a b : List Btc} (hf : Fitted a b) (k : Nat) (m : List Int) : occ (withB a b k) m ≤ occ (rowsOf b) m ∧ (k = (placesL a b).length → occ (withB a b k) m = occ (rowsOf b) m) := by
  have h1 := (places_occ hf m).1
  have h2 := occ_take_le ((placesL a b).map (mkP b)) k m
  have h3 := leftA_occ hf (placesL a b).length m
  rw [List.take_of_length_le (by simp)] at h3
  rw [withB, occ_append]
  refine ⟨by omega, fun e => ?_⟩
  subst e
  rw [List.take_of_length_le (by simp)]
  omega
theorem withB_len {a b : List Btc} (hf : Fitted a b) (k : Nat) : (withB a b k).length ≤ 2 * (rowsOf a).length := by
  have h1 := leftA_len a b (placesL a b).length
  have h2 := places_len hf
  rw [withB, List.length_append, List.length_take, List.length_map]
  omega
/-- Some ballots that are valid together with others. -/
theorem tal_sub {c kind : Int} {l : List Btc} (hI : tallyI l c kind = 0) {ms : List (List Int)} (ho : ∀ m, occ ms m ≤ occ (rowsOf l) m) (hl : ms.length ≤ 1000000) : Valid ⟨c, kind, tal ms⟩ := by
  obtain ⟨hv, hrc, hl64⟩ := tally_valid hI
  obtain ⟨h1, h2, h3, h4, -⟩ := recCheck_ok hrc
  have hmem : ∀ m ∈ ms, m ∈ rowsOf l := fun m hm => by
    have h5 := ho m
    rw [occ_count, occ_count] at h5
    have := List.count_pos_iff.2 hm
    exact List.count_pos_iff.1 (by omega)
  exact tal_valid h1 (fun m hm => rowsOf_fit h4 m (hmem m hm)) (Nat.le_trans (tal_more ho) hl64) hl
/-- Taking off the ballots at the places, one by one. -/
theorem rec_take {a b : List Btc} {c kind : Int} (h0 : fitI a b c kind = 0) (hI : tallyI a c kind = 0) {k : Nat} (hk : k < (placesL a b).length) {x : Blt} (hx : bltP a (placesL a b)[k] = x) (hxk : x.kind = kind ∧ checkB x c = 0) :
    takeI ⟨c, kind, tal (leftA a b k)⟩ x 1 = 0 ∧ takeV ⟨c, kind, tal (leftA a b k)⟩ x 1 = ⟨c, kind, tal (leftA a b (k + 1))⟩ := by
  obtain ⟨hf, hca, -, -⟩ := fitted h0
  obtain ⟨-, h2, h3, -, -⟩ := recCheck_ok hca
  have hrl := rowsOf_len h3
  have hle : ∀ j m, occ (leftA a b j) m ≤ occ (rowsOf a) m := fun j m => by
    have h5 := leftA_occ hf j m
    have h6 := occ_nonneg (((placesL a b).map (mkP a)).take j) m
    omega
  have hv := tal_sub hI (hle k) (by have := leftA_len a b k; omega)
  have hmk : mkP a (placesL a b)[k] = x.marks := by rw [mkP, hx]
  have hst : ∀ m, occ (leftA a b (k + 1)) m = occ (leftA a b k) m - if x.marks = m then 1 else 0 := fun m => by
    rw [leftA_occ hf, leftA_occ hf, List.take_succ_eq_append_getElem (by simpa using hk), occ_append]
    simp only [List.getElem_map, hmk, occ_cons, occ_nil]
    omega
  have hpos : 0 < cnt (tal (leftA a b k)) x.marks := by
    have h5 := hst x.marks
    have h6 := occ_nonneg (leftA a b (k + 1)) x.marks
    rw [if_pos rfl] at h5
    rw [tal_cnt]
    omega
  have his : isR (tal (leftA a b k)) x.marks = true := by
    cases he : isR (tal (leftA a b k)) x.marks
    · rw [cnt_not (tal_asc _) he] at hpos; omega
    · rfl
  have hm : mayP ⟨c, kind, tal (leftA a b k)⟩ x 1 = 0 := by
    rw [mayP, if_neg (by rw [chkP_zero.2 hv]; simp), if_pos hxk, if_neg (by omega)]
  have ht : takeI ⟨c, kind, tal (leftA a b k)⟩ x 1 = 0 := by
    rw [takeI, if_neg (by rw [hm]; simp), if_pos ⟨his, by show 1 ≤ cnt (tal (leftA a b k)) x.marks; omega⟩]
  refine ⟨ht, ?_⟩
  rw [takeV, if_pos ht]
  show Prof.mk c kind (dropR (tal (leftA a b k)) x.marks 1) = _
  congr 1
  refine asc_ext (dropR_asc (tal_asc _) (by omega)).1 (tal_asc _) fun m => ?_
  rw [dropR_cnt (tal_asc _) ((cnt_pos (tal_asc _)).2 hpos), tal_cnt, tal_cnt, hst]
/-- Putting on the other count's ballots at the places, one by one. -/
theorem rec_add {a b : List Btc} {c kind : Int} (h0 : fitI a b c kind = 0) (hI : tallyI b c kind = 0) {k : Nat} (hk : k < (placesL a b).length) {x : Blt} (hx : bltP b (placesL a b)[k] = x) (hxk : x.kind = kind ∧ checkB x c = 0) :
    addI ⟨c, kind, tal (withB a b k)⟩ x 1 = 0 ∧ addV ⟨c, kind, tal (withB a b k)⟩ x 1 = ⟨c, kind, tal (withB a b (k + 1))⟩ := by
  obtain ⟨hf, hca, -, -⟩ := fitted h0
  obtain ⟨-, h2, h3, -, -⟩ := recCheck_ok hca
  have hrl := rowsOf_len h3
  have hv := fun j => tal_sub hI (fun m => (withB_occ hf j m).1) (by have := withB_len hf j; omega)
  have hmk : mkP b (placesL a b)[k] = x.marks := by rw [mkP, hx]
  have hst : tal (withB a b (k + 1)) = putR (tal (withB a b k)) x.marks 1 := by
    rw [← tal_snoc, withB, withB, List.take_succ_eq_append_getElem (by simpa using hk), List.getElem_map, hmk, List.append_assoc]
  have hm : mayP ⟨c, kind, tal (withB a b k)⟩ x 1 = 0 := by
    rw [mayP, if_neg (by rw [chkP_zero.2 (hv k)]; simp), if_pos hxk, if_neg (by omega)]
  have he : addW ⟨c, kind, tal (withB a b k)⟩ x.marks (min 1 1000001) = ⟨c, kind, tal (withB a b (k + 1))⟩ := by
    rw [addW, hst]; rfl
  have ha : addI ⟨c, kind, tal (withB a b k)⟩ x 1 = 0 := by
    rw [addI, if_neg (by rw [hm]; simp), he]
    exact chkP_zero.2 (hv (k + 1))
  exact ⟨ha, by rw [addV, if_pos ha, he]⟩
theorem left0 (a b : List Btc) : leftA a b 0 = rowsOf a := rfl
theorem leftN (a b : List Btc) : leftA a b (placesL a b).length = withB a b 0 := by simp [withB]
theorem with_end {a b : List Btc} {c kind : Int} (h0 : fitI a b c kind = 0) : tal (withB a b (placesL a b).length) = tal (rowsOf b) :=
  tal_ext fun m => (withB_occ (fitted h0).1 _ m).2 rfl
/-- The ballots at the places are valid. -/
theorem blt_fit {l : List Btc} {c kind : Int} (hc : recCheck l c kind = 0) {i j : Nat} (h1 : i < l.length) (h2 : j < l[i].blts.length) : bltP l ⟨(i : Int), (j : Int)⟩ = l[i].blts[j] ∧ l[i].blts[j].kind = kind ∧ checkB l[i].blts[j] c = 0 := by
  obtain ⟨-, -, -, h4, -⟩ := recCheck_ok hc
  refine ⟨?_, mayB_fit (h4 _ (List.getElem_mem h1)) _ (List.getElem_mem h2)⟩
  show ((l.getD (i : Int).toNat zC).blts).getD (j : Int).toNat zB = _
  rw [Int.toNat_natCast, Int.toNat_natCast, getD_at zC h1, getD_at zB h2]
/-- The batches in which the counts differ, as the law gathers them. -/
def whichStep (acc : List Int) (p : Place) : List Int := if acc = [] ∨ acc.getLastD 0 ≠ p.batch then acc ++ [p.batch] else acc
def whichL (pl : List Place) : List Int := pl.foldl whichStep []
end Go.Proofs.YtopdfijojjbjdaaGreat

/- A recount: the batches that the law gathers, and that replacing them gives the other count: plain laws; no program. -/
namespace Go.Proofs.YtopdfijojjbjdaaGreat
open Go Go.RowKit Go.Shelf

theorem which_one {acc : List Int} {p : Place} (h : acc = [] ∨ acc.getLastD 0 ≠ p.batch) : whichStep acc p = acc ++ [p.batch] := by rw [whichStep, if_pos h]
theorem which_not {acc : List Int} {p : Place} (h : ¬ (acc = [] ∨ acc.getLastD 0 ≠ p.batch)) : whichStep acc p = acc := by rw [whichStep, if_neg h]
theorem last_snoc (acc : List Int) (n : Int) : (acc ++ [n]).getLastD 0 = n := by simp [List.getLastD_eq_getLast?]
theorem which_same {n : Int} : ∀ (l : List Place) (acc : List Int), (∀ p ∈ l, p.batch = n) → l.foldl whichStep (acc ++ [n]) = acc ++ [n]
  | [], _, _ => rfl
  | p :: l, acc, h => by
    have hp := h p (List.mem_cons_self ..)
    rw [List.foldl_cons, which_not (by rw [last_snoc, hp]; simp)]
    exact which_same l acc fun q hq => h q (List.mem_cons_of_mem _ hq)
theorem which_row {n : Int} {l : List Place} {acc : List Int} (h : ∀ p ∈ l, p.batch = n) (hl : l ≠ []) (ha : acc = [] ∨ acc.getLastD 0 ≠ n) : l.foldl whichStep acc = acc ++ [n] := by
  cases l with
  | nil => exact absurd rfl hl
  | cons p l =>
    have hp := h p (List.mem_cons_self ..)
    rw [List.foldl_cons, which_one (by rw [hp]; exact ha), hp]
    exact which_same l acc fun q hq => h q (List.mem_cons_of_mem _ hq)
/-- The batches in which the counts differ. -/
def difB (a b : List Btc) (i : Nat) : Bool := !(difRow i (a.getD i zC).blts (b.getD i zC).blts (a.getD i zC).blts.length).isEmpty
def difI (a b : List Btc) (n : Nat) : List Int := ((List.range n).filter (difB a b)).map fun (i : Nat) => (i : Int)
theorem difI_lt {a b : List Btc} {n : Nat} {i : Int} (h : i ∈ difI a b n) : 0 ≤ i ∧ i < n := by
  obtain ⟨k, hk, rfl⟩ := List.mem_map.1 h
  have := List.mem_range.1 (List.mem_filter.1 hk).1
  omega
theorem difI_succ (a b : List Btc) (n : Nat) : difI a b (n + 1) = difI a b n ++ if difB a b n then [(n : Int)] else [] := by
  rw [difI, List.range_succ, List.filter_append, List.map_append]
  cases h : difB a b n <;> simp [h, difI]
theorem difRow_batch {i : Nat} {xs ys : List Blt} {n : Nat} : ∀ p ∈ difRow i xs ys n, p.batch = (i : Int) := by
  intro p hp
  unfold difRow at hp
  obtain ⟨k, -, rfl⟩ := List.mem_map.1 hp
  rfl
theorem which_all (a b : List Btc) : ∀ n, whichL (difAll a b n) = difI a b n
  | 0 => by simp [whichL, difAll, difI]
  | n + 1 => by
    have ih := which_all a b n
    have e : difAll a b (n + 1) = difAll a b n ++ difRow n (a.getD n zC).blts (b.getD n zC).blts (a.getD n zC).blts.length := by
      unfold difAll
      rw [List.range_succ, List.flatMap_append]
      simp
    rw [e, whichL, List.foldl_append]
    rw [whichL] at ih
    rw [ih, difI_succ]
    by_cases hd : difRow n (a.getD n zC).blts (b.getD n zC).blts (a.getD n zC).blts.length = []
    · rw [hd]
      have : difB a b n = false := by rw [difB, hd]; rfl
      simp [this]
    · have hb : difB a b n = true := by rw [difB]; cases hq : difRow n (a.getD n zC).blts (b.getD n zC).blts (a.getD n zC).blts.length with
        | nil => exact absurd hq hd
        | cons _ _ => rfl
      rw [which_row (n := (n : Int)) difRow_batch hd ?_]
      · simp [hb]
      · by_cases he : difI a b n = []
        · exact .inl he
        · refine .inr fun h => ?_
          have hm : (difI a b n).getLastD 0 ∈ difI a b n := by
            rw [List.getLastD_eq_getLast?, List.getLast?_eq_some_getLast he]
            exact List.getLast_mem he
          rw [h] at hm
          have := difI_lt hm
          omega
theorem which_eq (a b : List Btc) : whichL (placesL a b) = difI a b a.length := which_all a b a.length
theorem which_ok (a b : List Btc) : okB a.length (whichL (placesL a b)) = true := by
  rw [which_eq, okB, Bool.and_eq_true, List.all_eq_true, decide_eq_true_eq]
  refine ⟨fun i hi => by rw [decide_eq_true_eq]; exact difI_lt hi, ?_⟩
  refine List.Pairwise.map _ (fun x y h e => h (by omega)) ((List.nodup_range).filter _)
theorem replL_get (b : List Btc) (k : Nat) : ∀ (is : List Int) (a : List Btc) (h : k < a.length), ∃ h' : k < (replL a b is).length, (replL a b is)[k] = if (∃ i ∈ is, i.toNat = k) then b.getD k zC else a[k]
  | [], a, h => ⟨h, by simp [replL]⟩
  | i :: is, a, h => by
    obtain ⟨h1, h2⟩ := replL_get b k is (a.set i.toNat (b.getD i.toNat zC)) (by rw [List.length_set]; exact h)
    have e : replL a b (i :: is) = replL (a.set i.toNat (b.getD i.toNat zC)) b is := rfl
    refine ⟨by rw [e]; exact h1, ?_⟩
    simp only [e, h2]
    by_cases hx : ∃ j ∈ is, j.toNat = k
    · obtain ⟨j, hj, hk⟩ := hx
      rw [if_pos ⟨j, hj, hk⟩, if_pos ⟨j, List.mem_cons_of_mem _ hj, hk⟩]
    · rw [if_neg hx, List.getElem_set]
      by_cases hi : i.toNat = k
      · rw [if_pos hi, if_pos ⟨i, List.mem_cons_self .., hi⟩, hi]
      · rw [if_neg hi, if_neg]
        rintro ⟨j, hj, hk⟩
        rcases List.mem_cons.1 hj with rfl | hj
        · exact hi hk
        · exact hx ⟨j, hj, hk⟩
/-- Replacing the batches in which the counts differ gives the other count. -/
theorem repl_is {a b : List Btc} {c kind : Int} (h0 : fitI a b c kind = 0) : replL a b (whichL (placesL a b)) = b := by
  obtain ⟨hf, -, -, hs⟩ := fitted h0
  refine List.ext_getElem (by rw [replL_len]; exact hf.1) fun k h1 h2 => ?_
  have hk : k < a.length := by rw [replL_len] at h1; exact h1
  obtain ⟨hh, e⟩ := replL_get b k (whichL (placesL a b)) a hk
  rw [e]
  split
  · exact getD_at zC h2
  · rename_i hn
    have hd : difB a b k = false := by
      cases hh : difB a b k
      · rfl
      · refine absurd ⟨(k : Int), ?_, by simp⟩ hn
        rw [which_eq]
        exact List.mem_map.2 ⟨k, List.mem_filter.2 ⟨List.mem_range.2 hk, hh⟩, rfl⟩
    have hd2 : difRow k a[k].blts b[k].blts a[k].blts.length = [] := by
      rw [difB, getD_at zC hk, getD_at zC h2] at hd
      simpa using hd
    have hr := difRow_nil.1 hd2
    have hm := eqL_get hs k (by simpa [maniL] using hk) (by simpa [maniL] using h2)
    simp only [maniL, List.getElem_map, eqSlot, Bool.and_eq_true] at hm
    refine eqBtc_eq ?_
    rw [eqBtc, hm.1, Bool.true_and]
    refine eqL_of (hf.2 k hk h2) fun j j1 j2 => ?_
    have := hr j j1
    rwa [getD_at zB j1, getD_at zB j2] at this
theorem repI_zero {a b : List Btc} {c kind : Int} (h0 : fitI a b c kind = 0) : repI a b c kind (whichL (placesL a b)) = 0 ∧ repV a b c kind (whichL (placesL a b)) = b := by
  have h1 : repI a b c kind (whichL (placesL a b)) = 0 := by rw [repI, if_pos h0, if_pos (which_ok a b)]
  exact ⟨h1, by rw [repV, if_pos h1, repl_is h0]⟩
theorem fit_self {b : List Btc} {c kind : Int} (h : recCheck b c kind = 0) : fitI b b c kind = 0 ∧ placesL b b = [] := by
  have h1 : fitI b b c kind = 0 := fitI_zero.2 ⟨h, h, eqL_refl (fun x => by simp [eqSlot, sameName]) _⟩
  exact ⟨h1, (places_nil h1).2 (eqL_refl eqBtc_refl _)⟩
/-- The places that have been gone through. -/
theorem whichL_take {pl : List Place} {k : Nat} (h : k < pl.length) : whichL (pl.take (k + 1)) = whichStep (whichL (pl.take k)) pl[k] := by
  rw [List.take_succ_eq_append_getElem h, whichL, List.foldl_append]; rfl
theorem whichL_len : ∀ (pl : List Place), (whichL pl).length ≤ pl.length := fun pl => by
  have : ∀ (l : List Place) (acc : List Int), (l.foldl whichStep acc).length ≤ acc.length + l.length := by
    intro l
    induction l with
    | nil => intro acc; simp
    | cons p l ih =>
      intro acc
      have := ih (whichStep acc p)
      have h2 : (whichStep acc p).length ≤ acc.length + 1 := by rw [whichStep]; split <;> simp
      rw [List.foldl_cons, List.length_cons]
      omega
  simpa [whichL] using this pl []
end Go.Proofs.YtopdfijojjbjdaaGreat

/- The contract of slices.Delete at rows: one row, out of rows of the call's own. -/
namespace Go.Proofs.YtopdfijojjbjdaaGreat
open Go Go.RowKit Go.Shelf

theorem lay_set {cur : List Value} {o : Nat} {v : Value} {r : List Value} (h : o < cur.length) : lay (cur.set o v) (o + 1) r = lay cur o (v :: r) := by
  have h1 : (cur.take o).length = o := by rw [List.length_take]; omega
  have h2 : (cur.take o ++ v :: cur.drop (o + 1)).take (o + 1) = cur.take o ++ [v] := by
    rw [List.take_append, h1, List.take_of_length_le (by omega), show o + 1 - o = 1 by omega]; rfl
  have h3 : (cur.take o ++ v :: cur.drop (o + 1)).drop (o + 1 + r.length) = cur.drop (o + (v :: r).length) := by
    rw [List.drop_append, h1, List.drop_eq_nil_of_le (by omega), show o + 1 + r.length - o = r.length + 1 by omega, List.drop_succ_cons, List.drop_drop, List.nil_append]
    congr 1; simp; omega
  rw [lay, lay, List.set_eq_take_append_cons_drop, if_pos h, h2, h3]
  simp
theorem heap_setCells {g : Nat} {t : TypeId} : ∀ (vs : List Value) (o : Nat) (w : World) (cur : List Value), w.heap[g]? = some (.cells cur.toArray t (0, 0)) → o + vs.length ≤ cur.length → (w.setCells g o vs).heap[g]? = some (.cells (lay cur o vs).toArray t (0, 0))
  | [], o, w, cur, h, _ => by simpa [lay, World.setCells] using h
  | v :: r, o, w, cur, h, hl => by
    simp only [List.length_cons] at hl
    have h1 := heap_setCell_at (o := o) h v
    rw [show cur.toArray.setIfInBounds o v = (cur.set o v).toArray by simp] at h1
    have := heap_setCells r (o + 1) (w.setCell ⟨g, o, none⟩ v) (cur.set o v) h1 (by simp; omega)
    rw [lay_set (by omega)] at this
    exact this
theorem gb_setCells (g : Nat) : ∀ (vs : List Value) (o : Nat) (w : World), w.grownBy (w.setCells g o vs) (some g)
  | [], _, _ => ⟨rfl, rfl, rfl, Nat.le_refl _, fun _ _ _ => rfl⟩
  | v :: r, o, w => by
    have h1 := gb_setCell w g o v
    have h2 := gb_setCells g r (o + 1) (w.setCell ⟨g, o, none⟩ v)
    exact ⟨h2.os.trans h1.os, h2.tape.trans h1.tape, h2.output.trans h1.output, Nat.le_trans h1.size h2.size, fun b hb hne => (h2.block b (Nat.lt_of_lt_of_le hb h1.size) hne).trans (h1.block b hb hne)⟩
theorem run_clear_row {P : Program} (w : World) (t e ty : TypeId) (ht : P.underlying t = some (.slice e)) (hv : ∀ w, (zeroValue e).run P w = .ok (.agg #[.slice none 0 0, .int .i64 0]) w) (b o c : Nat)
    (hc : ∀ j, j < 2 → (w.cell? ⟨b, o + j, none⟩).isSome = true) (hf : ∀ j, j < 2 → w.frozen? ⟨b, o + j, none⟩ = false) :
    (Builtin.clear_ #[t] ty #[.slice (some ⟨b, o, none⟩) 1 c]).run P w = .ok (.tuple #[]) (w.setCells b o [.slice none 0 0, .int .i64 0]) := by
  have hzc : (Builtin.zeroCells (Value.agg #[.slice none 0 0, .int .i64 0]).cells 1).toList = [.slice none 0 0, .int .i64 0] := by kernel_rfl
  have hst := run_storeCells_cells (P := P) b o [.slice none 0 0, .int .i64 0] 0 w (by simpa using hc) (by simpa using hf) (by intro v hv'; simp at hv'; rcases hv' with rfl | rfl <;> rfl)
  simp only [Nat.add_zero] at hst
  simp [Builtin.clear_, run_underlying ht, hv, hzc, hst]
theorem eraseIdx_td {α : Type} (l : List α) (i : Nat) : l.eraseIdx i = l.take i ++ l.drop (i + 1) := List.eraseIdx_eq_take_drop_succ l i
set_option maxHeartbeats 4000000 in
set_option maxRecDepth 100000 in
theorem delRows (T : Nat → Prop) (base g cap i : Nat) (rows : List Row) (w : World) (ho : OwnT T base w (.slice (some ⟨g, 0, none⟩) rows.length cap) rows) (hi : i < rows.length) (hl : rows.length ≤ 1000) :
    Calls Tryz.prog 59 #[.slice (some ⟨g, 0, none⟩) rows.length cap, .int .i64 i, .int .i64 ((i : Int) + 1)] w fun e w' => e = .returned (.slice (some ⟨g, 0, none⟩) (rows.length - 1) cap) ∧ OwnT T base w' (.slice (some ⟨g, 0, none⟩) (rows.length - 1) cap) (rows.eraseIdx i) ∧ w.grownBy w' (some g) := by
  obtain ⟨cur, L, hg, hbg, hn, hm, hs, hL, hd, -⟩ := ho.cells
  have hLl := hd.1
  have hcg : ∀ j v, L[j]? = some v → w.cell? ⟨g, j, none⟩ = some v := fun j v hj => by
    rw [cell_of_row w g j cur.toArray 88 (0, 0) hg]
    have hlt := (List.getElem?_eq_some_iff.1 hj).1
    rw [← hL, List.getElem?_take_of_lt (by omega)] at hj
    simpa using hj
  have h1L := dec_one (dRow.one _) hd
  have hdl : (L.drop ((i + 1) * 2)).length = (rows.length - (i + 1)) * 2 := by rw [List.length_drop, hLl]; omega
  have hcs : ∀ W : World, W.heap[g]? = w.heap[g]? → ∀ j, j < cap * 2 → (W.cell? ⟨g, j, none⟩).isSome = true ∧ W.frozen? ⟨g, j, none⟩ = false := fun W hW j hj => by
    have hgW := hW.trans hg
    rw [cell_of_row W g j cur.toArray 88 (0, 0) hgW]
    exact ⟨by simp; omega, by simp [World.frozen?, hgW]⟩
  obtain ⟨A, hA, hsrc⟩ : ∃ A : Addr, (if cap = i + 1 then some (⟨g, 0, none⟩ : Addr) else some ⟨g, (i + 1) * 2, none⟩) = some A ∧ Hid (∀ t u, (L.drop ((i + 1) * 2))[t]? = some u → w.drew.cell? (A.add t) = some u) := by
    by_cases h : cap = i + 1
    · refine ⟨⟨g, 0, none⟩, by simp [h], Lib.hid fun t u hu => ?_⟩
      have := (List.getElem?_eq_some_iff.1 hu).1
      rw [hdl] at this
      omega
    · refine ⟨⟨g, (i + 1) * 2, none⟩, by simp [h], Lib.hid fun t u hu => ?_⟩
      rw [List.getElem?_drop] at hu
      rw [Addr.add_lit]
      exact hcg _ u hu
  obtain ⟨W1, hW1⟩ : ∃ W1, W1 = w.drew.setCells g (0 + i * 2) (L.drop ((i + 1) * 2)) := ⟨_, rfl⟩
  obtain ⟨W2, hW2⟩ : ∃ W2, W2 = W1.setCells g (0 + (rows.length - 1) * 2) [.slice none 0 0, .int .i64 0] := ⟨_, rfl⟩
  have hgW1 : W1.heap[g]? = some (.cells (lay cur (i * 2) (L.drop ((i + 1) * 2))).toArray 88 (0, 0)) := by
    rw [hW1, Nat.zero_add]
    exact heap_setCells _ _ w.drew cur hg (by rw [hdl, hs]; omega)
  have hl1 : (lay cur (i * 2) (L.drop ((i + 1) * 2))).length = cur.length := lay_length (by rw [hdl]; omega)
  have hgW2 : W2.heap[g]? = some (.cells (lay (lay cur (i * 2) (L.drop ((i + 1) * 2))) ((rows.length - 1) * 2) [.slice none 0 0, .int .i64 0]).toArray 88 (0, 0)) := by
    rw [hW2, Nat.zero_add]
    exact heap_setCells _ _ W1 _ hgW1 (by rw [hl1, hs]; simp; omega)
  have hsp : ∀ j, j < (L.drop ((i + 1) * 2)).length → (w.drew.cell? ⟨g, 0 + i * 2 + j, none⟩).isSome = true ∧ w.drew.frozen? ⟨g, 0 + i * 2 + j, none⟩ = false := fun j hj => by
    rw [hdl] at hj
    exact hcs w.drew rfl _ (by omega)
  have hcl : ∀ o m ty c, o = (rows.length - 1) * 2 → m = 1 → (Builtin.clear_ #[35] ty #[.slice (some ⟨g, o, none⟩) m c]).run Tryz.prog W1 = .ok (.tuple #[]) W2 := fun o m ty c e1 e2 => by
    subst e1 e2
    rw [hW2, Nat.zero_add]
    refine run_clear_row W1 _ _ ty Tryz.underlying35 (fun w => by kernel_rfl) g _ c (fun j hj => ?_) (fun j hj => ?_)
    · rw [cell_of_row W1 g _ _ _ _ hgW1]; simp; rw [hl1, hs]; omega
    · simp [World.frozen?, hgW1]
  have hgr : w.grownBy W2 (some g) := by
    have h1 := gb_setCells g (L.drop ((i + 1) * 2)) (0 + i * 2) w.drew
    rw [← hW1] at h1
    have h2 := gb_setCells g [.slice none 0 0, .int .i64 0] (0 + (rows.length - 1) * 2) W1
    rw [← hW2] at h2
    exact ⟨h2.os.trans h1.os, h2.tape.trans h1.tape, h2.output.trans h1.output, Nat.le_trans h1.size h2.size, fun b hb hne => (h2.block b (Nat.lt_of_lt_of_le hb h1.size) hne).trans (h1.block b hb hne)⟩
  have hln : (rows.eraseIdx i).length = rows.length - 1 := List.length_eraseIdx_of_lt hi
  have hfin : OwnT T base W2 (.slice (some ⟨g, 0, none⟩) (rows.length - 1) cap) (rows.eraseIdx i) := by
    have hsm : Same (RgT T w (.slice (some ⟨g, 0, none⟩) rows.length cap)) w W2 := fun b hb hbs => hgr.block b hb hbs.2.2
    have hrg : ∀ b, RgT T w (.slice (some ⟨g, 0, none⟩) rows.length cap) b → RgT T W2 (.slice (some ⟨g, 0, none⟩) (rows.eraseIdx i).length cap) b := fun b hb => ⟨hb.1, Nat.lt_of_lt_of_le hb.2.1 hgr.size, hb.2.2⟩
    have hdd : Dec 2 (dRow (RgT T W2 (.slice (some ⟨g, 0, none⟩) (rows.eraseIdx i).length cap))) W2 (L.take (i * 2) ++ L.drop ((i + 1) * 2)) (rows.eraseIdx i) := by
      rw [eraseIdx_td]
      rw [eraseIdx_td] at hrg
      exact Dec.append ((hd.take (by omega)).dmono fun cs y h => dRow.mono hrg (dRow.stable _ _ _ _ _ hsm h)) ((hd.drop (by omega)).dmono fun cs y h => dRow.mono hrg (dRow.stable _ _ _ _ _ hsm h))
    rw [← hln]
    refine OwnT.ofCells hgW2 hbg (by omega) hm (by rw [lay_length (by rw [hl1, hs]; simp; omega), hl1, hs]) ?_ hdd
    rw [hln, lay_take (by rw [hl1, hs]; omega), lay, List.append_assoc, ← List.append_assoc, List.take_append_of_le_length (by simp only [List.length_append, List.length_take, hdl]; omega), List.take_of_length_le (by simp only [List.length_append, List.length_take, hdl]; omega)]
    congr 1
    rw [← hL, List.take_take, Nat.min_eq_left (by omega)]
  obtain ⟨i0, hi0, hz0, hzs, hzb⟩ := info_parts Tryz.infoRow
  have HF := Lib.hid hfin; have Hgr := Lib.hid hgr; have Hcl := Lib.hid hcl; have Hsp := Lib.hid hsp; have H1 := Lib.hid (fun u (hu : u ∈ L.drop ((i + 1) * 2)) => h1L u (List.mem_of_mem_drop hu)); have Hdl := Lib.hid hdl; have HW := Lib.hid hW1
  have hlt63 : cap ≤ 9223372036854775807 := by simp only [maxLen] at hm; omega
  clear hfin hgr hcl hsp h1L hdl hW1 hgW1 hgW2 hW2 hcs hcg hd hL hg ho hs hm hLl hl1
  have hic : i ≤ cap := by omega
  have hjc : i + 1 ≤ cap := by omega
  have hw1 : IntKind.i64.wrap ((i : Int) + 1) = (i : Int) + 1 := by rw [IntKind.wrap_i64]; omega
  have htn : ((i : Int) + 1).toNat = i + 1 := by omega
  have hne : ¬ (i : Int) = (i : Int) + 1 := by omega
  have hb1 : (0 : Int) ≤ (i : Int) + 1 := by omega
  have hb2 : (i : Int) + 1 ≤ (rows.length : Int) := by omega
  go_enter Tryz.func59, Tryz.ntmps59
  go_wp2
  go_region_law (refine step_append_room rfl _ _ 35 rfl 88 i0 2 Tryz.underlying35 hi0 hzs g 0 i cap (by simp [Act.eval, Act.put]) A (rows.length - (i + 1)) (cap - (i + 1)) _ (by simp [Act.eval, Act.put]) Hdl.out hsrc.out H1.out (by omega) Hsp.out ?_; rw [← HW.out])
  all_goals
    have hcl := fun ty => Hcl.out ((i + (rows.length - (i + 1))) * 2) (rows.length - (i + (rows.length - (i + 1)))) ty (cap - (i + (rows.length - (i + 1)))) (by omega) (by omega)
    go_wp2
    go_ret
    have e : i + (rows.length - (i + 1)) = rows.length - 1 := by omega
    exact ⟨by rw [e]; rfl, HF.out, Hgr.out⟩
end Go.Proofs.YtopdfijojjbjdaaGreat

/- The contract of profile.drop. -/
namespace Go.Proofs.YtopdfijojjbjdaaGreat
open Go Go.RowKit Go.Shelf

theorem set_eraseIdx {α : Type} : ∀ (l : List α) (i : Nat) (x : α), (l.set i x).eraseIdx i = l.eraseIdx i
  | [], _, _ => rfl
  | _ :: _, 0, _ => rfl
  | a :: l, i + 1, x => by simp [set_eraseIdx l i x]
set_option maxHeartbeats 4000000 in
set_option maxRecDepth 100000 in
theorem profDrop_no (T Tm : Nat → Prop) (base g : Nat) (c k : Int) (rv mv : Value) (rows : List Row) (m : List Int) (n : Int) (w : World)
    (hg : w.heap[g]? = some (.cells #[.int .i64 c, .int .u8 k, rv] 37 (0, 0))) (ho : OwnT T base w rv rows) (hk : 0 ≤ k ∧ k ≤ 255) (ha : Asc rows) (hm : RInts Tm w mv m) (hl : rows.length ≤ 1000)
    (hno : ¬ (isR rows m = true ∧ n ≤ cnt rows m)) :
    Calls Tryz.prog 32 #[.pointer (some ⟨g, 0, none⟩), mv, .int .i64 n] w fun e w' => e = .returned (.bool false) ∧ Below w.heap.size w w' := by
  have hP := profPlace Any Tm _ mv ⟨c, k, rows⟩ m w (show VProf Any w (.agg #[.int .i64 c, .int .u8 k, rv]) ⟨c, k, rows⟩ from by
    obtain ⟨a, cap, rfl⟩ := ho.shape
    exact ⟨a, cap, rfl, hk.1, hk.2, ho.rsl (by show rows.length ≤ _; omega)⟩) hm ha
  simp only at hP
  obtain ⟨a2, cap2, rfl, -, -⟩ := RSl.shape hm
  obtain ⟨-, kb, fb⟩ := own_box (Below.refl _ w) (size_of_box hg) hg
  have hgs := size_of_box hg
  cases his : isR rows m
  · rw [his] at hP
    obtain ⟨a, cap, rfl⟩ := ho.shape
    have HP := Lib.hid hP
    clear hP his ho hm hg ha hno
    go_enter Tryz.func32, Tryz.ntmps32
    go_wp2_with (go_at_call 58; refine HP.out.mono ?_; rintro e w1 ⟨rfl, hb1⟩)
    go_ret
    exact ⟨rfl, hb1⟩
  · rw [his] at hP
    obtain ⟨hp, hpm⟩ := isR_iff.1 his
    have hz : rows[posR rows m].many < n := by
      have := cnt_is hp hpm
      rcases Int.lt_or_le rows[posR rows m].many n with h | h
      · exact h
      · exact absurd ⟨his, by rw [this]; exact h⟩ hno
    obtain ⟨a, cap, rfl⟩ := ho.shape
    obtain ⟨gr, c0, d0, rfl, hgr1, hgr2, hc0, hd0, hfr, hx⟩ := Own.at2 ho hp
    obtain ⟨a3, cap3, rfl, rfl, hl3, hw3, hI3⟩ := hx.open
    obtain ⟨z, hzz⟩ : ∃ z, rows[posR rows m].many = z := ⟨_, rfl⟩
    rw [hzz] at hz
    obtain ⟨pp, hpp⟩ : ∃ pp, posR rows m = pp := ⟨_, rfl⟩
    have hkc : ∀ w1, Below w.heap.size w w1 → (∀ i, w1.cell? ⟨g, i, none⟩ = (#[.int .i64 c, .int .u8 k, .slice (some ⟨gr, 0, none⟩) rows.length cap] : Array Value)[i]?) ∧ w1.cell? ⟨gr, posR rows m * 2 + 1, none⟩ = some (.int .i64 z) := fun w1 hb1 =>
      ⟨(own_box hb1 (size_of_box hg) hg).2.1, by rw [← hzz]; exact (Same.of_below (S := Any) hb1).cell trivial hd0⟩
    simp only [hpp] at hP hkc hp
    have HP := Lib.hid hP; have Hkc := Lib.hid hkc
    clear hP hkc his hpm hno hx hI3 ho hm hg hc0 hd0 hw3 hl3 hfr ha hpp hzz
    go_enter Tryz.func32, Tryz.ntmps32
    go_wp2_with (go_at_call 58; refine HP.out.mono ?_; rintro e w1 ⟨rfl, hb1⟩; obtain ⟨k1, k2⟩ := Hkc.out w1 hb1)
    go_ret
    exact ⟨rfl, hb1⟩
/-- What drop gives. -/
def DropGives (T : Nat → Prop) (base g : Nat) (c k : Int) (rows : List Row) (w : World) (e : Ending) (w' : World) : Prop :=
  e = .returned (.bool true) ∧ ∃ a n cap, w'.heap[g]? = some (.cells #[.int .i64 c, .int .u8 k, .slice a n cap] 37 (0, 0)) ∧ OwnT T base w' (.slice a n cap) rows ∧ PutFrame g base w w'
set_option maxHeartbeats 4000000 in
set_option maxRecDepth 100000 in
theorem profDrop_yes (T Tm : Nat → Prop) (base g : Nat) (c k : Int) (rv mv : Value) (rows : List Row) (m : List Int) (n : Int) (w : World)
    (hg : w.heap[g]? = some (.cells #[.int .i64 c, .int .u8 k, rv] 37 (0, 0))) (hgb : g < base) (hbw : base ≤ w.heap.size) (ho : OwnT T base w rv rows) (hTg : ¬ T g) (hk : 0 ≤ k ∧ k ≤ 255) (ha : Asc rows) (hm : RInts Tm w mv m) (hl : rows.length ≤ 1000)
    (hwf : ∀ r ∈ rows, 0 < r.many ∧ r.many ≤ 1000000) (hn : 1 ≤ n) (his : isR rows m = true) (hle : n ≤ cnt rows m) :
    Calls Tryz.prog 32 #[.pointer (some ⟨g, 0, none⟩), mv, .int .i64 n] w (DropGives T base g c k (dropR rows m n) w) := by
  obtain ⟨hp, hpm⟩ := isR_iff.1 his
  have hdrop := dropR_pos n hp hpm
  have hP := profPlace Any Tm _ mv ⟨c, k, rows⟩ m w (show VProf Any w (.agg #[.int .i64 c, .int .u8 k, rv]) ⟨c, k, rows⟩ from by
    obtain ⟨a, cap, rfl⟩ := ho.shape
    exact ⟨a, cap, rfl, hk.1, hk.2, ho.rsl (by show rows.length ≤ _; omega)⟩) hm ha
  simp only at hP
  rw [his] at hP
  obtain ⟨a, cap, rfl⟩ := ho.shape
  obtain ⟨a2, cap2, rfl, -, -⟩ := RSl.shape hm
  obtain ⟨gr, c0, d0, rfl, hgr1, hgr2, hc0, hd0, hfr, hx⟩ := Own.at2 ho hp
  obtain ⟨a3, cap3, rfl, rfl, hl3, hw3, hI3⟩ := hx.open
  obtain ⟨-, kb, fb⟩ := own_box (Below.refl _ w) (size_of_box hg) hg
  have hmw := hwf _ (List.getElem_mem hp)
  rw [cnt_is hp hpm] at hle
  obtain ⟨z, hz⟩ : ∃ z, rows[posR rows m].many = z := ⟨_, rfl⟩
  have hgne : gr ≠ g := by omega
  have hkc : ∀ w1, Below w.heap.size w w1 → (∀ i, w1.cell? ⟨g, i, none⟩ = (#[.int .i64 c, .int .u8 k, .slice (some ⟨gr, 0, none⟩) rows.length cap] : Array Value)[i]?) ∧ w1.cell? ⟨gr, posR rows m * 2 + 1, none⟩ = some (.int .i64 z) ∧ w1.frozen? ⟨gr, posR rows m * 2 + 1, none⟩ = false := fun w1 hb1 =>
    ⟨(own_box hb1 (size_of_box hg) hg).2.1, by rw [← hz]; exact (Same.of_below (S := Any) hb1).cell trivial hd0, (hb1.frozen hgr2).trans (hfr _)⟩
  have hbox : ∀ w1 v, Below w.heap.size w w1 → (w1.setCell ⟨gr, posR rows m * 2 + 1, none⟩ v).heap[g]? = some (.cells #[.int .i64 c, .int .u8 k, .slice (some ⟨gr, 0, none⟩) rows.length cap] 37 (0, 0)) := fun w1 v hb1 => (Below.heap_setCell _ _ _ _ (by simp; omega)).trans ((hb1.block g (by omega)).trans hg)
  have hfr1 : ∀ w1 v, Below w.heap.size w w1 → PutFrame g base w (w1.setCell ⟨gr, posR rows m * 2 + 1, none⟩ v) := fun w1 v hb1 => (putFrame_below hb1 hbw).trans (putFrame_set _ _ _ _ (.inr hgr1))
  by_cases hzn : z = n
  · -- the row goes
    subst hzn
    have hD : ∀ w1, Below w.heap.size w w1 → Calls Tryz.prog 59 #[.slice (some ⟨gr, 0, none⟩) rows.length cap, .int .i64 (posR rows m), .int .i64 ((posR rows m : Int) + 1)] (w1.setCell ⟨gr, posR rows m * 2 + 1, none⟩ (.int .i64 0)) fun e w' => e = .returned (.slice (some ⟨gr, 0, none⟩) (rows.length - 1) cap) ∧ OwnT T base w' (.slice (some ⟨gr, 0, none⟩) (rows.length - 1) cap) (dropR rows m z) ∧ (w1.setCell ⟨gr, posR rows m * 2 + 1, none⟩ (.int .i64 0)).grownBy w' (some gr) := fun w1 hb1 => by
      have h1 := (ho.below hb1).setMany hp (m := 0) (by decide)
      have hls : (rows.set (posR rows m) ⟨rows[posR rows m].marks, 0⟩).length = rows.length := List.length_set
      have := delRows T base gr cap (posR rows m) (rows.set (posR rows m) ⟨rows[posR rows m].marks, 0⟩) _ (by rw [hls]; exact h1) (by rw [hls]; exact hp) (by rw [hls]; exact hl)
      rw [hls, set_eraseIdx] at this
      rw [hdrop, if_pos hz]
      exact this
    have hFin : ∀ w1 w3, Below w.heap.size w w1 → OwnT T base w3 (.slice (some ⟨gr, 0, none⟩) (rows.length - 1) cap) (dropR rows m z) → (w1.setCell ⟨gr, posR rows m * 2 + 1, none⟩ (.int .i64 0)).grownBy w3 (some gr) →
        ((∀ i, w3.cell? ⟨g, i, none⟩ = (#[.int .i64 c, .int .u8 k, .slice (some ⟨gr, 0, none⟩) rows.length cap] : Array Value)[i]?) ∧ (∀ i, w3.frozen? ⟨g, i, none⟩ = false) ∧ g < w3.heap.size) ∧ DropGives T base g c k (dropR rows m z) w (.returned (.bool true)) (w3.setCell ⟨g, 2, none⟩ (.slice (some ⟨gr, 0, none⟩) (rows.length - 1) cap)) := fun w1 w3 hb1 ho3 hg3 => by
      have hz1 := hb1.size
      have e : w3.heap[g]? = some (.cells #[.int .i64 c, .int .u8 k, .slice (some ⟨gr, 0, none⟩) rows.length cap] 37 (0, 0)) := (hg3.block g (by rw [size_setCell']; omega) (fun e => hgne (by injection e with e; exact e.symm))).trans (hbox w1 _ hb1)
      refine ⟨⟨(own_box (Below.refl _ w3) (size_of_box e) e).2.1, (own_box (Below.refl _ w3) (size_of_box e) e).2.2, size_of_box e⟩, rfl, _, _, _, heap_setCell_at e _, ho3.setCell hTg (fun e => hgne (by injection e with e; exact e.symm)) _ _, ?_⟩
      exact ((hfr1 w1 _ hb1).trans (putFrame_grown hg3 (fun b hb => by injection hb with hb; omega) (by rw [size_setCell']; omega))).trans (putFrame_set _ _ _ _ (.inl rfl))
    obtain ⟨pp, hpp⟩ : ∃ pp, posR rows m = pp := ⟨_, rfl⟩
    simp only [hpp] at hP hFin hkc hp hD
    have HP := Lib.hid hP; have HFin := Lib.hid hFin; have Hkc := Lib.hid hkc; have HD := Lib.hid hD
    have hgb2 : g ≠ gr := fun e => hgne e.symm
    clear hP hFin hkc hD hpm hdrop his hx hI3 ho hm hg hwf hc0 hd0 hw3 hl3 hfr ha hbox hfr1 hle hTg
    simp only [hz] at hmw
    clear hz hpp
    have hw1 : IntKind.i64.wrap ((pp : Int) + 1) = (pp : Int) + 1 := by rw [IntKind.wrap_i64]; omega
    go_enter Tryz.func32, Tryz.ntmps32
    go_wp2_with (first
      | (go_at_call 58; refine HP.out.mono ?_; rintro e w1 ⟨rfl, hb1⟩; obtain ⟨k1, k2, k3⟩ := Hkc.out w1 hb1)
      | (go_at_call 59; refine (HD.out w1 hb1).mono ?_; rintro e w3 ⟨rfl, ho3, hg3⟩; obtain ⟨⟨j1, j2, j3⟩, hf⟩ := HFin.out w1 w3 hb1 ho3 hg3; have HF := Lib.hid hf; clear ho3 hg3 hf k1 k2 k3))
    go_ret
    exact HF.out
  · -- the row stays
    have hlt : n < z := by omega
    have hFin : ∀ w1, Below w.heap.size w w1 → DropGives T base g c k (dropR rows m n) w (.returned (.bool true)) (w1.setCell ⟨gr, posR rows m * 2 + 1, none⟩ (.int .i64 (z - n))) := fun w1 hb1 => by
      have h1 := (ho.below hb1).setMany hp (m := z - n) (by simp [Lit.wf, IntKind.min, IntKind.max, IntKind.bits, IntKind.signed]; omega)
      rw [hdrop, if_neg (by omega)]
      refine ⟨rfl, _, _, _, hbox w1 _ hb1, ?_, hfr1 w1 _ hb1⟩
      rw [hz]
      rwa [hpm] at h1
    obtain ⟨pp, hpp⟩ : ∃ pp, posR rows m = pp := ⟨_, rfl⟩
    simp only [hpp] at hP hFin hkc hp
    have HP := Lib.hid hP; have HFin := Lib.hid hFin; have Hkc := Lib.hid hkc
    have hgb2 : g ≠ gr := fun e => hgne e.symm
    clear hP hFin hkc hpm hdrop his hx hI3 ho hm hg hwf hc0 hd0 hw3 hl3 hfr ha hbox hfr1 hle hTg
    simp only [hz] at hmw
    clear hz hpp hzn
    have hne0 : ¬ (z - n = 0) := by omega
    have hne1 : (z - n == 0) = false := by simpa using hne0
    go_enter Tryz.func32, Tryz.ntmps32
    go_wp2_with (go_at_call 58; refine HP.out.mono ?_; rintro e w1 ⟨rfl, hb1⟩; obtain ⟨k1, k2, k3⟩ := Hkc.out w1 hb1)
    go_ret
    exact HFin.out w1 hb1
end Go.Proofs.YtopdfijojjbjdaaGreat

/- The contract of profile.Take. -/
namespace Go.Proofs.YtopdfijojjbjdaaGreat
open Go Go.RowKit Go.Shelf

set_option maxHeartbeats 4000000 in
set_option maxRecDepth 100000 in
theorem profTake (S S2 : Nat → Prop) (v u : Value) (p : Prof) (b : Blt) (n : Int) (w : World) (h : VProf S w v p) (hu : VBlt S2 w u b) :
    Calls Tryz.prog 11 #[v, u, .int .i64 n] w (ProfGives (Cut S w.heap.size) (takeI p b n) (takeV p b n) w) := by
  have h0 := h
  have hu0 := hu
  obtain ⟨a1, c1, rfl, hk1, hk2, hR⟩ := h
  obtain ⟨cc, dd, rfl, hD⟩ := hu
  obtain ⟨a2, c2, rfl, rfl, hl2, -, -, hI2⟩ := hD.open
  obtain ⟨W0, hW0⟩ : ∃ W0, W0 = ((w.alloc (.cells #[.int .i64 p.cands, .int .u8 p.kind, .slice a1 p.rows.length c1] 37)).alloc (.cells #[.int .u8 b.kind, .slice a2 b.marks.length c2] 41)).alloc (.cells #[.int .i64 0, .int .u8 0, .slice none 0 0] 37) := ⟨_, rfl⟩
  have hb0 : Below w.heap.size w W0 := by rw [hW0]; exact ((below_new w _).alloc (by simp) _).alloc (by simp; omega) _
  have hz0 : W0.heap.size = w.heap.size + 3 := by rw [hW0]; simp
  have g0 : W0.heap[w.heap.size]? = some (.cells #[.int .i64 p.cands, .int .u8 p.kind, .slice a1 p.rows.length c1] 37 (0, 0)) := by rw [hW0]; exact box_old _ (box_old _ (box_new _ _))
  have g1 : W0.heap[w.heap.size + 1]? = some (.cells #[.int .u8 b.kind, .slice a2 b.marks.length c2] 41 (0, 0)) := by
    rw [hW0]
    have := box_new (w.alloc (.cells #[.int .i64 p.cands, .int .u8 p.kind, .slice a1 p.rows.length c1] 37)) (.cells #[.int .u8 b.kind, .slice a2 b.marks.length c2] 41)
    rw [World.size_alloc] at this
    exact box_old _ this
  have g2 : W0.heap[w.heap.size + 2]? = some (.cells #[.int .i64 0, .int .u8 0, .slice none 0 0] 37 (0, 0)) := by
    rw [hW0]
    have := box_new ((w.alloc (.cells #[.int .i64 p.cands, .int .u8 p.kind, .slice a1 p.rows.length c1] 37)).alloc (.cells #[.int .u8 b.kind, .slice a2 b.marks.length c2] 41)) (.cells #[.int .i64 0, .int .u8 0, .slice none 0 0] 37)
    rwa [World.size_alloc, World.size_alloc] at this
  have hM := profMay S S2 _ _ p b n W0 (h0.same (.of_below hb0)) (hu0.same (.of_below hb0))
  have hKK := fun W (hW : Below W0.heap.size W0 W) => And.intro (own_box hW (by omega) g0) (And.intro (own_box hW (by omega) g1) (own_box hW (by omega) g2))
  by_cases hmay : mayP p b n = 0
  case neg =>
    have hI : takeI p b n = mayP p b n := by rw [takeI, if_pos hmay]
    have hV : takeV p b n = noP := by rw [takeV, hI, if_neg hmay]
    have hG := fun w' (hb : Below w.heap.size w w') => ProfGives.none (S := Cut S w.heap.size) (I := mayP p b n) hb
    rw [hI, hV]
    have hq : (mayP p b n != 0) = true := by simpa using hmay
    generalize mayP p b n = I at *
    have HM := Lib.hid hM; have HKK := Lib.hid hKK; have HG := Lib.hid hG
    clear hM hKK hG hI hV hmay g0 g1 g2 hD hR h0 hu0 hI2
    subst hW0
    go_enter Tryz.func11, Tryz.ntmps11
    go_wp2_with (go_at_call 30; refine HM.out.mono ?_; rintro e w1 ⟨rfl, hb1⟩; obtain ⟨⟨q0, k0, f0⟩, ⟨q1, k1, f1⟩, ⟨q2, k2, f2⟩⟩ := HKK.out _ hb1; have hlt2 := size_of_box q2)
    exact bodyPost_ret (v := .tuple #[.agg #[.int .i64 0, .int .u8 0, .slice none 0 0], .int .i64 I]) (by simp [results, Tryz.results11, go_sem, k2]) rfl (HG.out _ ((((hb0.trans (hb1.mono (by simp; omega))).setCell (p := ⟨w.heap.size + 2, 0, none⟩) (by simp) _).setCell (p := ⟨w.heap.size + 2, 1, none⟩) (by simp) _).setCell (p := ⟨w.heap.size + 2, 2, none⟩) (by simp) _))
  obtain ⟨hv, hkb, hcb, hn1⟩ := mayP_zero hmay
  have hR1 : RRows (Cut S w.heap.size) w (.slice a1 p.rows.length c1) p.rows := hR.cut
  have hT := fun W (hW : Below w.heap.size w W) => profTwin (Cut S w.heap.size) a1 c1 p W (hR1.same (fun b _ hs => hW.block b hs.2)) (fun b hb => by have := hb.2; have := hW.size; omega) hv.rows hv.marks
  have hIm : RInts (Cut S2 w.heap.size) w (.slice a2 b.marks.length c2) b.marks := RSl.cut (by omega) (fun _ _ h => h) hI2
  have hTw := fun w1 rv w2 (h1 : Below w.heap.size w w1) hz hg h2 ho => held_twin (c := p.cands) (k := p.kind) (rows := p.rows) (rv := rv) (w := w) (w1 := w1) (w2 := w2) (S := Cut S w.heap.size) (x := .slice a1 p.rows.length c1) rfl (fun b hb => hb.2) h1 hz hg h2 ho
  have hG6 : ∀ (e : Nat) (w2 w4 : World) (x y z : Value), w.heap.size + 2 < e → w2.heap[w.heap.size + 2]? = some (.cells #[.int .i64 0, .int .u8 0, .slice none 0 0] 37 (0, 0)) → PutFrame w.heap.size e (((w2.setCell ⟨w.heap.size, 0, none⟩ x).setCell ⟨w.heap.size, 1, none⟩ y).setCell ⟨w.heap.size, 2, none⟩ z) w4 →
      w4.heap[w.heap.size + 2]? = some (.cells #[.int .i64 0, .int .u8 0, .slice none 0 0] 37 (0, 0)) := fun e w2 w4 x y z he h2 hf =>
    (hf.2.2.2.2 _ he (by omega)).trans ((Below.heap_setCell _ _ _ _ (by simp)).trans ((Below.heap_setCell _ _ _ _ (by simp)).trans ((Below.heap_setCell _ _ _ _ (by simp)).trans h2)))
  rw [hmay] at hM
  by_cases hyes : isR p.rows b.marks = true ∧ n ≤ cnt p.rows b.marks
  · have hI : takeI p b n = 0 := by rw [takeI, if_neg (by rw [hmay]; simp), if_pos hyes]
    have hV : takeV p b n = ⟨p.cands, p.kind, dropR p.rows b.marks n⟩ := by rw [takeV, if_pos hI]
    have hplen : (dropR p.rows b.marks n).length ≤ 1000 := by have := dropR_len p.rows b.marks n; have := hv.rows; omega
    have hDr := fun e a cap W (hW : Held (Cut S w.heap.size) w.heap.size e p.cands p.kind p.rows a p.rows.length cap w W) (he : w.heap.size < e) =>
      profDrop_yes (TT (Cut S w.heap.size) e) (Cut S2 w.heap.size) e w.heap.size p.cands p.kind _ (.slice a2 b.marks.length c2) p.rows b.marks n W hW.box he hW.size hW.own (fun h => by rcases h with h | h; exact absurd h.2 (by omega); omega) ⟨hk1, hk2⟩ hv.asc
        (hIm.same (fun b _ hs => hW.below.block b hs.2)) (by have := hv.rows; omega) (fun r hr => hv.many r hr) hn1 hyes.1 hyes.2
    have hB6 : ∀ e a n' cap w3 w4, Held (Cut S w.heap.size) w.heap.size e p.cands p.kind p.rows a n' cap w w3 → w.heap.size + 2 < e → ∀ a' n'' cap', w4.heap[w.heap.size]? = some (.cells #[.int .i64 p.cands, .int .u8 p.kind, .slice a' n'' cap'] 37 (0, 0)) → OwnT (TT (Cut S w.heap.size) e) e w4 (.slice a' n'' cap') (dropR p.rows b.marks n) → PutFrame w.heap.size e w3 w4 →
        Held (Cut S w.heap.size) w.heap.size e p.cands p.kind (dropR p.rows b.marks n) a' n'' cap' w w4 := fun e a n' cap w3 w4 h3 he a' n'' cap' hb ho hf => ⟨hb, ho, h3.below.trans (hf.under (Nat.le_refl _) (by omega)), by have := hf.2.2.2.1; have := h3.size; omega⟩
    have hEnd := fun e a n' cap W W5 (hW : Held (Cut S w.heap.size) w.heap.size e p.cands p.kind (dropR p.rows b.marks n) a n' cap w W) (he : w.heap.size + 2 < e) hb => hW.end (W5 := W5) rfl (fun b hb => hb.2) ⟨hk1, hk2⟩ hplen hb (w.heap.size + 2) (by omega)
    rw [hI, hV]
    obtain ⟨RR, hRR⟩ : ∃ RR, dropR p.rows b.marks n = RR := ⟨_, rfl⟩
    simp only [hRR] at hDr hB6 hEnd
    rw [hRR]
    have HM := Lib.hid hM; have HKK := Lib.hid hKK; have HT := Lib.hid hT; have HDr := Lib.hid hDr; have HB6 := Lib.hid hB6; have HG6 := Lib.hid hG6; have HTw := Lib.hid hTw; have HEnd := Lib.hid hEnd
    have HB0 := Lib.hid hb0; have HZ0 := Lib.hid hz0
    clear hM hKK hT hDr hB6 hG6 hTw hEnd hI hV hb0 hz0 g0 g1 g2 hD hR hR1 h0 hu0 hI2 hIm hv hkb hcb hRR hmay hplen hyes
    subst hW0
    go_enter Tryz.func11, Tryz.ntmps11
    go_wp2_with (first
      | (go_at_call 30; refine HM.out.mono ?_; rintro e w1 ⟨rfl, hb1⟩; obtain ⟨⟨q0, k0, f0⟩, ⟨q1, k1, f1⟩, ⟨q2, k2, f2⟩⟩ := HKK.out _ hb1; have hlt2 := size_of_box q2; have hq1 := HB0.out.trans (hb1.mono (by simp; omega)); have hz1 : w.heap.size + 2 < w1.heap.size := hlt2)
      | (go_at_call 31; refine (HT.out w1 hq1).mono ?_; rintro e w2 ⟨rv, rfl, ho2, hb2⟩; have hH := HTw.out w1 rv w2 hq1 hz1 q0 hb2 ho2; obtain ⟨a3, cap3, rfl, hH3⟩ := hH; obtain ⟨p0, j0, l0⟩ := own_box hb2 (size_of_box q0) q0; obtain ⟨p1, j1, l1⟩ := own_box hb2 (size_of_box q1) q1; obtain ⟨p2, j2, l2⟩ := own_box hb2 (size_of_box q2) q2; have HH3 := Lib.hid hH3; have hlt20 := size_of_box p0; have hlt21 := size_of_box p1; have Hp2 := Lib.hid p2; clear hH3 ho2)
      | (go_at_call 32; refine (HDr.out _ a3 cap3 _ HH3.out (by omega)).mono ?_; rintro e w4 ⟨rfl, a4, n4, cap4, hb4, ho4, hf4⟩; have hH4 := HB6.out _ _ _ _ _ _ HH3.out hz1 _ _ _ hb4 ho4 hf4; have g6 := HG6.out _ _ _ _ _ _ hz1 Hp2.out hf4; obtain ⟨-, j3, -⟩ := own_box (Below.refl _ w4) (size_of_box hb4) hb4; have hlt4 := size_of_box g6; obtain ⟨-, j6, l6⟩ := own_box (Below.refl _ w4) (size_of_box g6) g6; have HE := Lib.hid (HEnd.out _ _ _ _ _ _ hH4 hz1 (Below.refl _ w4)); clear hH4 ho4 hf4 g6))
    exact bodyPost_ret (v := .tuple #[.agg #[.int .i64 p.cands, .int .u8 p.kind, .slice a4 n4 cap4], .int .i64 0]) (by simp [results, Tryz.results11, go_sem, j6]) rfl ⟨_, rfl, (HE.out _ _ _).1, (HE.out _ _ _).2⟩
  · have hI : takeI p b n = 6 := by rw [takeI, if_neg (by rw [hmay]; simp), if_neg hyes]
    have hV : takeV p b n = noP := by rw [takeV, hI, if_neg (by omega)]
    have hDr := fun e a cap W (hW : Held (Cut S w.heap.size) w.heap.size e p.cands p.kind p.rows a p.rows.length cap w W) (he : w.heap.size < e) =>
      profDrop_no (TT (Cut S w.heap.size) e) (Cut S2 w.heap.size) e w.heap.size p.cands p.kind _ (.slice a2 b.marks.length c2) p.rows b.marks n W hW.box hW.own ⟨hk1, hk2⟩ hv.asc
        (hIm.same (fun b _ hs => hW.below.block b hs.2)) (by have := hv.rows; omega) hyes
    have hz3 : ∀ (w2 : World) (x y z : Value), w2.heap[w.heap.size + 2]? = some (.cells #[.int .i64 0, .int .u8 0, .slice none 0 0] 37 (0, 0)) → (((w2.setCell ⟨w.heap.size, 0, none⟩ x).setCell ⟨w.heap.size, 1, none⟩ y).setCell ⟨w.heap.size, 2, none⟩ z).heap[w.heap.size + 2]? = some (.cells #[.int .i64 0, .int .u8 0, .slice none 0 0] 37 (0, 0)) := fun w2 x y z h2 =>
      (Below.heap_setCell _ _ _ _ (by simp)).trans ((Below.heap_setCell _ _ _ _ (by simp)).trans ((Below.heap_setCell _ _ _ _ (by simp)).trans h2))
    rw [hI, hV]
    have HM := Lib.hid hM; have HKK := Lib.hid hKK; have HT := Lib.hid hT; have HDr := Lib.hid hDr; have HTw := Lib.hid hTw; have Hz3 := Lib.hid hz3
    have HB0 := Lib.hid hb0; have HZ0 := Lib.hid hz0
    clear hM hKK hT hDr hG6 hTw hI hV hb0 hz0 g0 g1 g2 hD hR hR1 h0 hu0 hI2 hIm hv hkb hcb hmay hyes hz3
    subst hW0
    go_enter Tryz.func11, Tryz.ntmps11
    go_wp2_with (first
      | (go_at_call 30; refine HM.out.mono ?_; rintro e w1 ⟨rfl, hb1⟩; obtain ⟨⟨q0, k0, f0⟩, ⟨q1, k1, f1⟩, ⟨q2, k2, f2⟩⟩ := HKK.out _ hb1; have hlt2 := size_of_box q2; have hq1 := HB0.out.trans (hb1.mono (by simp; omega)); have hz1 : w.heap.size + 2 < w1.heap.size := hlt2)
      | (go_at_call 31; refine (HT.out w1 hq1).mono ?_; rintro e w2 ⟨rv, rfl, ho2, hb2⟩; have hH := HTw.out w1 rv w2 hq1 hz1 q0 hb2 ho2; obtain ⟨a3, cap3, rfl, hH3⟩ := hH; obtain ⟨p0, j0, l0⟩ := own_box hb2 (size_of_box q0) q0; obtain ⟨p1, j1, l1⟩ := own_box hb2 (size_of_box q1) q1; obtain ⟨p2, j2, l2⟩ := own_box hb2 (size_of_box q2) q2; have HH3 := Lib.hid hH3; have hlt20 := size_of_box p0; have hlt21 := size_of_box p1; have Hp2 := Lib.hid p2; clear hH3 ho2)
      | (go_at_call 32; refine (HDr.out _ a3 cap3 _ HH3.out (by omega)).mono ?_; rintro e w4 ⟨rfl, hb4⟩; obtain ⟨q6, j6, l6⟩ := own_box hb4 (size_of_box (Hz3.out _ _ _ _ Hp2.out)) (Hz3.out _ _ _ _ Hp2.out); have hlt6 := size_of_box q6; have hb7 := HH3.out.below.trans (hb4.mono (HH3.out.below.size)); clear q6))
    exact bodyPost_ret (v := .tuple #[.agg #[.int .i64 0, .int .u8 0, .slice none 0 0], .int .i64 6]) (by simp [results, Tryz.results11, go_sem, j6]) rfl (ProfGives.none (((hb7.setCell (p := ⟨w.heap.size + 2, 0, none⟩) (by simp) _).setCell (p := ⟨w.heap.size + 2, 1, none⟩) (by simp) _).setCell (p := ⟨w.heap.size + 2, 2, none⟩) (by simp) _))
end Go.Proofs.YtopdfijojjbjdaaGreat

/- The walk of the law CanvassRecounts. Printed by gen19.py. -/
namespace Go.Proofs.YtopdfijojjbjdaaGreat
open Go Go.RowKit Go.Shelf

theorem belR {B : Nat} {w W w' : World} (h : Below B w W) (hb : Below W.heap.size W w') (hB : B ≤ W.heap.size) : Below B w w' := h.trans (hb.mono hB)
/-- How far the walk has come. -/
inductive Stage : Nat → Prop
  | mk (n : Nat) : Stage n
theorem sameSelf (S T : Nat → Prop) (u v : Value) (xs : List Btc) (w : World) (hx : RBtcs S w u xs) (hy : RBtcs T w v xs) :
    Calls Tryz.prog 8 #[u, v] w fun e w' => e = .returned (.bool true) ∧ Below w.heap.size w w' := by
  have := recordSame S T u v xs xs w hx hy
  rwa [eqL_refl eqBtc_refl] at this
theorem profSelf (S T : Nat → Prop) (u v : Value) (p : Prof) (w : World) (hx : VProf S w u p) (hy : VProf T w v p) :
    Calls Tryz.prog 13 #[u, v] w fun e w' => e = .returned (.bool true) ∧ Below w.heap.size w w' := by
  have := profSame S T u v p p w hx hy
  rwa [eqProf_iff.2 rfl] at this
def TalR (Q : Nat → Prop) (p : Prof) (n : Nat) (I : Int) (w : World) (e : Ending) (w' : World) : Prop :=
  ∃ a cc, e = .returned (.tuple #[.agg #[.int .i64 p.cands, .int .u8 p.kind, .slice a n cc], .int .i64 I]) ∧ VProf Q w' (.agg #[.int .i64 p.cands, .int .u8 p.kind, .slice a n cc]) p ∧ Below w.heap.size w w'
theorem TalR.of {l : List Btc} {c kind : Int} {p : Prof} {n : Nat} {I : Int} {w w' : World} {e : Ending} (hI : tallyI l c kind = I) (hV : tallyV l c kind = p) (hn : p.rows.length = n) (h : TallyGives l c kind w e w') : TalR (From w.heap.size) p n I w e w' := by
  obtain ⟨v, he, hv, hb⟩ := h
  subst hI hV hn
  have hv2 := hv
  obtain ⟨a, cc, rfl, -, -, -⟩ := hv
  exact ⟨a, cc, he, hv2, hb⟩
theorem TalR.give {S : Nat → Prop} {p : Prof} {n : Nat} {I : Int} {V : Prof} {w w' : World} {e : Ending} (hV : V = p) (hn : p.rows.length = n) (h : ProfGives S I V w e w') : TalR (fun b => S b ∨ w.heap.size ≤ b) p n I w e w' := by
  obtain ⟨v, he, hv, hb⟩ := h
  subst hV hn
  have hv2 := hv
  obtain ⟨a, cc, rfl, -, -, -⟩ := hv
  exact ⟨a, cc, he, hv2, hb⟩
/-- At, at a place. -/
theorem at_place {X : List Btc} {c kind : Int} (hx0 : recCheck X c kind = 0) (hXs : Small X) {p : Place} {y : Blt} (hp : ∃ (i j : Nat), p = ⟨(i : Int), (j : Int)⟩ ∧ ∃ (h1 : i < X.length), j < X[i].blts.length) (hy : bltP X p = y) (v : Value) (w : World) (h : RBtcs Any w v X) :
    Calls Tryz.prog 10 #[v, .int .i64 c, .int .u8 kind, .int .i64 p.batch, .int .i64 p.place] w fun e w' => ∃ a cc, e = .returned (.tuple #[.agg #[.int .u8 y.kind, .slice a y.marks.length cc], .int .i64 0]) ∧ VBlt (From w.heap.size) w' (.agg #[.int .u8 y.kind, .slice a y.marks.length cc]) y ∧ Below w.heap.size w w' := by
  obtain ⟨i, j, rfl, hk, hj⟩ := hp
  have h1 := hXs.1
  have h2 := (hXs.2 _ (List.getElem_mem hk)).1
  refine (recordAt Any v X c kind i j w h hXs (by omega) (by omega)).mono ?_
  rintro e w' ⟨u, he, hu, hb⟩
  obtain ⟨e1, e2⟩ := atAt_some hk hj
  have hbl := (blt_fit hx0 hk hj).1
  rw [hbl] at hy
  have e3 : answAt X c kind i j = 0 := by rw [answAt, if_pos hx0]; exact e1
  have e4 : bltAt X c kind i j = y := by rw [bltAt, if_pos hx0, e2, hy]
  rw [e3] at he
  rw [e4] at hu
  have hu2 := WBlt.toV hu
  obtain ⟨c1, d1, rfl, hd⟩ := hu2
  obtain ⟨a, cap, rfl, rfl, -, -, -, -⟩ := hd.open
  exact ⟨a, cap, he, ⟨_, _, rfl, hd⟩, hb⟩
set_option maxHeartbeats 4000000 in
set_option maxRecDepth 100000 in
theorem recounts_great (u v : Value) (a b : List Btc) (c kind : Int) (w : World) (h : RBtcs Any w u a) (hv : RBtcs Any w v b) (hg : great a = true ∨ great b = true) : Calls Tryz.prog 3 #[u, v, .int .i64 c, .int .u8 kind] w fun e w' => e = .returned (.bool true) ∧ Below w.heap.size w w' := by
  have hG := fun W (hW : Below w.heap.size w W) => great26 Any u a W (h.same (.of_below hW))
  have hG2 := fun W (hW : Below w.heap.size w W) => great26 Any v b W (hv.same (.of_below hW))
  obtain ⟨a1, cap1, rfl, -, -⟩ := RSl.shape h
  obtain ⟨a2, cap2, rfl, -, -⟩ := RSl.shape hv
  obtain ⟨g1, hg1⟩ : ∃ g, great a = g := ⟨_, rfl⟩
  obtain ⟨g2, hg2⟩ : ∃ g, great b = g := ⟨_, rfl⟩
  rw [hg1] at hG hg
  rw [hg2] at hG2 hg
  have hways : g1 = true ∨ (g1 = false ∧ g2 = true) := by cases g1 <;> simp at hg ⊢; exact hg
  have HG := Lib.hid hG; have HG2 := Lib.hid hG2
  clear hG hG2 h hv hg1 hg2 hg
  rcases hways with rfl | ⟨rfl, rfl⟩
  all_goals
    have hst := Stage.mk 0
    go_enter Tryz.func3, Tryz.ntmps3
    go_wp2_with (first
      | (go_at_call 4; refine (alive27 _).mono ?_; rintro e w1 ⟨rfl, hp1⟩; have hz1 := hp1.size)
      | (have := (hst : Stage 0); go_at_call 5; clear this hst; refine (HG.out _ hp1).mono ?_; rintro e w2 ⟨rfl, hb2⟩; have hp2 := belR hp1 hb2 hz1; have hz2 := hp2.size; have hst := Stage.mk 1)
      | (have := (hst : Stage 1); go_at_call 5; clear this hst; refine (HG2.out _ hp2).mono ?_; rintro e w3 ⟨rfl, hb3⟩; have hp3 := belR hp2 hb3 hz2))
    go_ret
    exact ⟨rfl, by first | exact hp3 | exact hp2⟩
set_option maxHeartbeats 4000000 in
set_option maxRecDepth 100000 in
theorem recounts_unfit (u v : Value) (a b : List Btc) (c kind : Int) (w : World) (h : RBtcs Any w u a) (hv : RBtcs Any w v b) (hg1 : great a = false) (hg2 : great b = false) (h0 : fitI a b c kind ≠ 0) : Calls Tryz.prog 3 #[u, v, .int .i64 c, .int .u8 kind] w fun e w' => e = .returned (.bool true) ∧ Below w.heap.size w w' := by
  have hG := fun W (hW : Below w.heap.size w W) => great26 Any u a W (h.same (.of_below hW))
  have hG2 := fun W (hW : Below w.heap.size w W) => great26 Any v b W (hv.same (.of_below hW))
  rw [hg1] at hG
  rw [hg2] at hG2
  obtain ⟨I, hI⟩ : ∃ I, fitI a b c kind = I := ⟨_, rfl⟩
  have hC := fun W (hW : Below w.heap.size w W) => (canvassCompare Any Any u v a b c kind W (h.same (.of_below hW)) (hv.same (.of_below hW)) (small_of hg1) (small_of hg2).1).mono fun e w' (hh : CmpGives a b c kind W e w') => (show ∃ ap n cp, e = .returned (.tuple #[.slice ap n cp, .int .i64 I]) ∧ Below W.heap.size W w' from by
    obtain ⟨x, he, ho, hb⟩ := hh
    rw [hI] at he
    obtain ⟨ap, cp, rfl⟩ := Own.shape ho
    exact ⟨ap, _, cp, he, hb⟩)
  rw [hI] at h0
  have hq : (I != 0) = true := by simpa using h0
  obtain ⟨a1, cap1, rfl, -, -⟩ := RSl.shape h
  obtain ⟨a2, cap2, rfl, -, -⟩ := RSl.shape hv
  have HG := Lib.hid hG; have HG2 := Lib.hid hG2; have HC := Lib.hid hC
  clear hG hG2 hC h hv hg1 hg2 h0 hI
  have hst := Stage.mk 0
  go_enter Tryz.func3, Tryz.ntmps3
  go_wp2_with (first
    | (go_at_call 4; refine (alive27 _).mono ?_; rintro e w1 ⟨rfl, hp1⟩; have hz1 := hp1.size)
    | (have := (hst : Stage 0); go_at_call 5; clear this hst; refine (HG.out _ hp1).mono ?_; rintro e w2 ⟨rfl, hb2⟩; have hp2 := belR hp1 hb2 hz1; have hz2 := hp2.size; have hst := Stage.mk 1)
    | (have := (hst : Stage 1); go_at_call 5; clear this hst; refine (HG2.out _ hp2).mono ?_; rintro e w3 ⟨rfl, hb3⟩; have hp3 := belR hp2 hb3 hz2; have hz3 := hp3.size; have hst := Stage.mk 2)
    | (go_at_call 6; refine (HC.out _ hp3).mono ?_; rintro e w4 ⟨ap, n, cp, rfl, hb4⟩; have hp4 := belR hp3 hb4 hz3))
  go_ret
  exact ⟨rfl, hp4⟩
end Go.Proofs.YtopdfijojjbjdaaGreat

/- The state of the recount's loops. -/
namespace Go.Proofs.YtopdfijojjbjdaaGreat
open Go Go.RowKit Go.Shelf

/-- At's outcome, kept in a box of its own. -/
def AtR (wr : World) (y : Blt) (s23 s24 : Value) (wc : World) : Prop :=
  ∃ g ab cb, s23 = .pointer (some ⟨g, 0, none⟩) ∧ s24 = .int .i64 0 ∧ wc.heap[g]? = some (.cells #[.int .u8 y.kind, .slice ab y.marks.length cb] 41 (0, 0)) ∧ VBlt Any wc (.agg #[.int .u8 y.kind, .slice ab y.marks.length cb]) y ∧ Below wr.heap.size wr wc ∧ wr.heap.size ≤ g
theorem AtR.stored {wr w4 : World} {y : Blt} {g m : Nat} {ab : Option Addr} {cb : Nat} {cs : Array Value} (hcs : cs = #[.int .u8 0, .slice none 0 0]) (hg : w4.heap[g]? = some (.cells cs 41 (0, 0)))
    (hB : VBlt (From m) w4 (.agg #[.int .u8 y.kind, .slice ab y.marks.length cb]) y) (hgm : g < m) (hw : Below wr.heap.size wr w4) (hgw : wr.heap.size ≤ g) :
    AtR wr y (.pointer (some ⟨g, 0, none⟩)) (.int .i64 0) ((w4.setCell ⟨g, 0, none⟩ (.int .u8 y.kind)).setCell ⟨g, 1, none⟩ (.slice ab y.marks.length cb)) := by
  subst hcs
  have hn : ¬ From m g := by simp only [From]; omega
  obtain ⟨c0, d0, e0, hd⟩ := hB
  refine ⟨g, ab, cb, rfl, rfl, ?_, ⟨c0, d0, e0, ?_⟩, (hw.setCell (p := ⟨g, 0, none⟩) hgw _).setCell (p := ⟨g, 1, none⟩) hgw _, hgw⟩
  · have := heap_setCell_at (o := 1) (heap_setCell_at (o := 0) hg (.int .u8 y.kind)) (.slice ab y.marks.length cb)
    simpa using this
  · exact (dBlt.stable _ _ _ _ _ (((Same.refl _ _).setCell (p := ⟨g, 0, none⟩) hn _).setCell (p := ⟨g, 1, none⟩) hn _) hd).mono (fun _ _ => trivial)
theorem AtR.laid {wr w4 : World} {y : Blt} {m : Nat} {ab : Option Addr} {cb : Nat}
    (hB : VBlt (From m) w4 (.agg #[.int .u8 y.kind, .slice ab y.marks.length cb]) y) (hw : Below wr.heap.size wr w4) :
    AtR wr y (.pointer (some ⟨w4.heap.size, 0, none⟩)) (.int .i64 0) (w4.alloc (.cells #[.int .u8 y.kind, .slice ab y.marks.length cb] 41)) := by
  obtain ⟨c0, d0, e0, hd⟩ := hB
  exact ⟨_, ab, cb, rfl, rfl, box_new _ _, ⟨c0, d0, e0, (dBlt.stable _ _ _ _ _ (.of_below (below_new _ _)) hd).mono (fun _ _ => trivial)⟩, hw.alloc hw.size _, hw.size⟩
theorem VProf.low {S : Nat → Prop} {w : World} {v : Value} {p : Prof} (h : VProf S w v p) : VProf (Cut S w.heap.size) w v p :=
  let ⟨a, c, h1, h2, h3, h4⟩ := h; ⟨a, c, h1, h2, h3, h4.cut⟩
/-- The loops' state: the box that is written (the next block of W), and the second tally in its box. -/
structure RecI (W : World) (h : Nat) (o2 : Obj) (P2 : Value) (p2 p : Prof) (aq : Option Addr) (mq cq : Nat) (wr : World) : Prop where
  below : Below W.heap.size W wr
  box : wr.heap[W.heap.size]? = some (.cells #[.int .i64 p.cands, .int .u8 p.kind, .slice aq mq cq] 37 (0, 0))
  cur : VProf (fun b => b ≠ W.heap.size) wr (.agg #[.int .i64 p.cands, .int .u8 p.kind, .slice aq mq cq]) p
  box2 : wr.heap[h]? = some o2
  two : VProf (fun b => b ≠ W.heap.size) wr P2 p2
  ne : h ≠ W.heap.size
theorem RecI.ext {W : World} {h : Nat} {o2 : Obj} {P2 : Value} {p2 p : Prof} {aq : Option Addr} {mq cq : Nat} {wr w7 : World} (H : RecI W h o2 P2 p2 p aq mq cq wr) (hb : Below wr.heap.size wr w7) : RecI W h o2 P2 p2 p aq mq cq w7 :=
  ⟨H.below.trans (hb.mono H.below.size), (hb.block _ (size_of_box H.box)).trans H.box, VProf.same (.of_below hb) H.cur, (hb.block _ (size_of_box H.box2)).trans H.box2, VProf.same (.of_below hb) H.two, H.ne⟩
theorem VProf.stayR {S : Nat → Prop} {W : World} {v : Value} {p : Prof} (h : VProf S W v p) {b : Nat} (hb : ¬ S b) (i : Nat) (x : Value) : VProf S (W.setCell ⟨b, i, none⟩ x) v p :=
  h.same (fun g _ hs => Below.heap_setCell _ _ _ _ (by rintro rfl; exact hb hs))
theorem RecI.step {W : World} {h : Nat} {o2 : Obj} {P2 : Value} {p2 p p' : Prof} {aq a7 : Option Addr} {mq cq m7 c7 : Nat} {wr w7 : World} (H : RecI W h o2 P2 p2 p aq mq cq wr) (hb8 : Below wr.heap.size wr w7)
    (hv : VProf (fun b => b ≠ W.heap.size) w7 (.agg #[.int .i64 p'.cands, .int .u8 p'.kind, .slice a7 m7 c7]) p') :
    RecI W h o2 P2 p2 p' a7 m7 c7 (((w7.setCell ⟨W.heap.size, 0, none⟩ (.int .i64 p'.cands)).setCell ⟨W.heap.size, 1, none⟩ (.int .u8 p'.kind)).setCell ⟨W.heap.size, 2, none⟩ (.slice a7 m7 c7)) := by
  have hn : ¬ ((fun b => b ≠ W.heap.size) W.heap.size) := fun h => h rfl
  have g8 := (hb8.block _ (size_of_box H.box)).trans H.box
  refine ⟨?_, ?_, ?_, ?_, ?_, H.ne⟩
  · have h0 := H.below.trans (hb8.mono H.below.size)
    exact ((h0.setCell (p := ⟨W.heap.size, 0, none⟩) (Nat.le_refl _) _).setCell (p := ⟨W.heap.size, 1, none⟩) (Nat.le_refl _) _).setCell (p := ⟨W.heap.size, 2, none⟩) (Nat.le_refl _) _
  · have := heap_setCell_at (o := 2) (heap_setCell_at (o := 1) (heap_setCell_at (o := 0) g8 (.int .i64 p'.cands)) (.int .u8 p'.kind)) (.slice a7 m7 c7)
    simpa using this
  · exact ((hv.stayR hn _ _).stayR hn _ _).stayR hn _ _
  · have h2 := (hb8.block _ (size_of_box H.box2)).trans H.box2
    rw [Below.heap_setCell _ _ _ _ H.ne, Below.heap_setCell _ _ _ _ H.ne, Below.heap_setCell _ _ _ _ H.ne]
    exact h2
  · exact (((VProf.same (.of_below (hb8.mono (Nat.le_refl _))) H.two).stayR hn _ _).stayR hn _ _).stayR hn _ _
theorem box3 {W : World} {g : Nat} {x y z : Value} {e : TypeId} (h : W.heap[g]? = some (.cells #[x, y, z] e (0, 0))) : W.cell? ⟨g, 0, none⟩ = some x ∧ W.cell? ⟨g, 1, none⟩ = some y ∧ W.cell? ⟨g, 2, none⟩ = some z ∧ g < W.heap.size :=
  ⟨(own_box (Below.refl _ _) (size_of_box h) h).2.1 0, (own_box (Below.refl _ _) (size_of_box h) h).2.1 1, (own_box (Below.refl _ _) (size_of_box h) h).2.1 2, size_of_box h⟩
theorem box2 {W : World} {g : Nat} {x y : Value} {e : TypeId} (h : W.heap[g]? = some (.cells #[x, y] e (0, 0))) : W.cell? ⟨g, 0, none⟩ = some x ∧ W.cell? ⟨g, 1, none⟩ = some y ∧ g < W.heap.size :=
  ⟨(own_box (Below.refl _ _) (size_of_box h) h).2.1 0, (own_box (Below.refl _ _) (size_of_box h) h).2.1 1, size_of_box h⟩
theorem boxF {W : World} {g : Nat} {cs : Array Value} {e : TypeId} (h : W.heap[g]? = some (.cells cs e (0, 0))) (i : Nat) : W.frozen? ⟨g, i, none⟩ = false :=
  (own_box (Below.refl _ _) (size_of_box h) h).2.2 i
theorem fit_places {a b : List Btc} (hf : Fitted a b) {p : Place} (h : p ∈ placesL a b) : (∃ (i j : Nat), p = ⟨(i : Int), (j : Int)⟩ ∧ ∃ (h1 : i < a.length), j < a[i].blts.length) ∧ ∃ (i j : Nat), p = ⟨(i : Int), (j : Int)⟩ ∧ ∃ (h1 : i < b.length), j < b[i].blts.length := by
  obtain ⟨i, j, rfl, h1, hj⟩ := places_at h
  have h2 : i < b.length := by rw [← hf.1]; exact h1
  exact ⟨⟨i, j, rfl, h1, hj⟩, i, j, rfl, h2, by rw [← hf.2 i h1 h2]; exact hj⟩
theorem blt_fitP {l : List Btc} {c kind : Int} (hc : recCheck l c kind = 0) {p : Place} (hp : ∃ (i j : Nat), p = ⟨(i : Int), (j : Int)⟩ ∧ ∃ (h1 : i < l.length), j < l[i].blts.length) : (bltP l p).kind = kind ∧ checkB (bltP l p) c = 0 := by
  obtain ⟨i, j, rfl, h1, hj⟩ := hp
  obtain ⟨h2, h3, h4⟩ := blt_fit hc h1 hj
  rw [h2]; exact ⟨h3, h4⟩
end Go.Proofs.YtopdfijojjbjdaaGreat

/- The walk of the law CanvassRecounts where the counts fit. Printed by gen20.py. -/
namespace Go.Proofs.YtopdfijojjbjdaaGreat
open Go Go.RowKit Go.Shelf

theorem whichL_le (a b : List Btc) : (whichL (placesL a b)).length ≤ a.length := by
  rw [which_eq, difI, List.length_map]
  have := List.length_filter_le (difB a b) (List.range a.length)
  rwa [List.length_range] at this
theorem which_lastD {l : List Int} {m : Nat} (h : l.length = m + 1) : l.getLastD 0 = l[m]'(by omega) := by
  have hne : l ≠ [] := fun e => by rw [e] at h; simp at h
  rw [List.getLastD_eq_getLast?, List.getLast?_eq_some_getLast hne, List.getLast_eq_getElem]
  simp [h]
set_option maxHeartbeats 16000000 in
set_option maxRecDepth 100000 in
theorem recounts_ok (u v : Value) (a b : List Btc) (c kind : Int) (w : World) (h : RBtcs Any w u a) (hv : RBtcs Any w v b) (hg1 : great a = false) (hg2 : great b = false) (h0 : fitI a b c kind = 0) : Calls Tryz.prog 3 #[u, v, .int .i64 c, .int .u8 kind] w fun e w' => e = .returned (.bool true) ∧ Below w.heap.size w w' := by
  have hG := fun W (hW : Below w.heap.size w W) => great26 Any u a W (h.same (.of_below hW))
  have hG2 := fun W (hW : Below w.heap.size w W) => great26 Any v b W (hv.same (.of_below hW))
  have hsa := small_of hg1
  have hsb := small_of hg2
  rw [hg1] at hG
  rw [hg2] at hG2
  obtain ⟨hft, hca, hcb, -⟩ := fitted h0
  obtain ⟨hself, hsp⟩ := fit_self hcb
  obtain ⟨hr1, hr2⟩ := repI_zero h0
  have hwl := whichL_le a b
  have hpl := places_len hft
  have hpat := fun p (hp : p ∈ placesL a b) => fit_places hft hp
  obtain ⟨-, hl16, hl64, -, -⟩ := recCheck_ok hca
  have hrl := rowsOf_len hl64
  have hstepT := fun (hI : tallyI a c kind = 0) k (hk : k < (placesL a b).length) => rec_take h0 hI hk rfl (blt_fitP hca (hpat _ (List.getElem_mem hk)).1)
  have hstepA := fun (hI : tallyI b c kind = 0) k (hk : k < (placesL a b).length) => rec_add h0 hI hk rfl (blt_fitP hcb (hpat _ (List.getElem_mem hk)).2)
  have hleft := leftN a b
  have hwith := with_end h0
  obtain ⟨PL, hPL⟩ : ∃ PL, placesL a b = PL := ⟨_, rfl⟩
  rw [hPL] at hleft hwith
  simp only [hPL] at hstepT hstepA
  rw [hPL] at hr1 hr2 hwl hpl hpat
  obtain ⟨n, hn⟩ : ∃ n, PL.length = n := ⟨_, rfl⟩
  obtain ⟨N, hN⟩ : ∃ N, b.length = N := ⟨_, rfl⟩
  have hnl : n ≤ 1000000 := by omega
  have hwn := fun k => whichL_len (PL.take k)
  have hC := fun W (hW : Below w.heap.size w W) => (canvassCompare Any Any u v a b c kind W (h.same (.of_below hW)) (hv.same (.of_below hW)) hsa hsb.1).mono fun e w' (hh : CmpGives a b c kind W e w') => (show ∃ ap cp, e = .returned (.tuple #[.slice ap n cp, .int .i64 0]) ∧ RSl Any 2 dPlace w' (.slice ap n cp) PL ∧ Below W.heap.size W w' from by
    obtain ⟨x, he, ho, hb⟩ := hh
    rw [h0] at he
    rw [if_pos h0, hPL] at ho
    have hr := RSl.mono (T := Any) (fun _ _ _ hd => hd) (fun _ _ => trivial) (Own.rsl ho (by omega))
    obtain ⟨ap, cp, rfl⟩ := Own.shape ho
    rw [hn] at he hr
    exact ⟨ap, cp, he, hr, hb⟩)
  have hCx := fun W x (hx : RBtcs Any W x b) (hW : Below w.heap.size w W) => (canvassCompare Any Any x v b b c kind W hx (hv.same (.of_below hW)) hsb hsb.1).mono fun e w' (hh : CmpGives b b c kind W e w') => (show ∃ ap cp, e = .returned (.tuple #[.slice ap 0 cp, .int .i64 0]) ∧ Below W.heap.size W w' from by
    obtain ⟨x, he, ho, hb⟩ := hh
    rw [hself] at he
    rw [if_pos hself, hsp] at ho
    obtain ⟨ap, cp, rfl⟩ := Own.shape ho
    exact ⟨ap, cp, he, hb⟩)
  have hR := fun W z (hz : RInts Any W z (whichL PL)) (hW : Below w.heap.size w W) => (canvassReplace Any Any Any u v z a b c kind (whichL PL) W (h.same (.of_below hW)) (hv.same (.of_below hW)) hz (by omega) hsa hsb).mono fun e w' (hh : RepGives a b c kind (whichL PL) W e w') => (show ∃ ax cx, e = .returned (.tuple #[.slice ax N cx, .int .i64 0]) ∧ RBtcs Any w' (.slice ax N cx) b ∧ Below W.heap.size W w' from by
    obtain ⟨x, he, ho, hb⟩ := hh
    rw [hr1] at he
    rw [hr2] at ho
    have hr := RBtcs.mono (T := Any) (fun _ _ => trivial) ho.toR
    obtain ⟨ax, cx, rfl, -, -⟩ := RSl.shape hr
    rw [hN] at he hr
    exact ⟨ax, cx, he, hr, hb⟩)
  have hHv := fun W (hW : Below w.heap.size w W) => hv.same (.of_below hW)
  have hAtA := fun W k (hk : k < PL.length) (hW : Below w.heap.size w W) => at_place hca hsa (hpat _ (List.getElem_mem hk)).1 rfl u W (h.same (.of_below hW))
  have hAtB := fun W k (hk : k < PL.length) (hW : Below w.heap.size w W) => at_place hcb hsb (hpat _ (List.getElem_mem hk)).2 rfl v W (hv.same (.of_below hW))
  obtain ⟨I1, hI1⟩ : ∃ I, tallyI a c kind = I := ⟨_, rfl⟩
  obtain ⟨I2, hI2⟩ : ∃ I, tallyI b c kind = I := ⟨_, rfl⟩
  obtain ⟨p1, hV1⟩ : ∃ p, tallyV a c kind = p := ⟨_, rfl⟩
  obtain ⟨p2, hV2⟩ : ∃ p, tallyV b c kind = p := ⟨_, rfl⟩
  obtain ⟨n1, hn1⟩ : ∃ n, p1.rows.length = n := ⟨_, rfl⟩
  obtain ⟨n2, hn2⟩ : ∃ n, p2.rows.length = n := ⟨_, rfl⟩
  have hT1 := fun W (hW : Below w.heap.size w W) => (recTally Any u a c kind W (h.same (.of_below hW))).mono fun _ _ => TalR.of hI1 hV1 hn1
  have hT2 := fun W (hW : Below w.heap.size w W) => (recTally Any v b c kind W (hv.same (.of_below hW))).mono fun _ _ => TalR.of hI2 hV2 hn2
  have hbad : (I1 = 0 ∧ I2 = 0) ∨ ((I1 != 0) = true) ∨ (I1 = 0 ∧ (I2 != 0) = true) := by
    by_cases e1 : I1 = 0
    · by_cases e2 : I2 = 0
      · exact .inl ⟨e1, e2⟩
      · exact .inr (.inr ⟨e1, by simpa using e2⟩)
    · exact .inr (.inl (by simpa using e1))
  obtain ⟨a1, cap1, rfl, -, -⟩ := RSl.shape h
  obtain ⟨a2, cap2, rfl, -, -⟩ := RSl.shape hv
  have HG := Lib.hid hG; have HG2 := Lib.hid hG2; have HC := Lib.hid hC; have HCx := Lib.hid hCx; have HR := Lib.hid hR; have HHv := Lib.hid hHv; have Hn := Lib.hid hn; have Hwn := Lib.hid hwn; have HT1 := Lib.hid hT1; have HT2 := Lib.hid hT2; have Hbad := Lib.hid hbad; have HStT := Lib.hid hstepT; have HStA := Lib.hid hstepA; have HAtA := Lib.hid hAtA; have HAtB := Lib.hid hAtB; have Hleft := Lib.hid hleft; have Hwith := Lib.hid hwith; have Hpl := Lib.hid hpl
  clear hstepT hstepA hAtA hAtB hpat hleft hwith hpl
  clear hG hG2 hC hCx hR hHv hr1 hr2 hn hwn hN hT1 hT2 hbad
  have hst := Stage.mk 0
  go_enter Tryz.func3, Tryz.ntmps3
  go_wp2_with (first
    | (go_at_call 4; refine (alive27 _).mono ?_; rintro e w1 ⟨rfl, hp1⟩; have hz1 := hp1.size)
    | (have := (hst : Stage 0); go_at_call 5; clear this hst; refine (HG.out _ hp1).mono ?_; rintro e w2 ⟨rfl, hb2⟩; have hp2 := belR hp1 hb2 hz1; have hz2 := hp2.size; have hst := Stage.mk 1)
    | (have := (hst : Stage 1); go_at_call 5; clear this hst; refine (HG2.out _ hp2).mono ?_; rintro e w3 ⟨rfl, hb3⟩; have hp3 := belR hp2 hb3 hz2; have hz3 := hp3.size; have hst := Stage.mk 2)
    | (go_at_call 6; refine (HC.out _ hp3).mono ?_; rintro e w4 ⟨ap, cp, rfl, hr4, hb4⟩; have hp4 := belR hp3 hb4 hz3; have hz4 := hp4.size; have HPL := Lib.hid hr4; clear hr4 hb4))
  clear hp1 hz1 hp2 hz2 hp3 hz3 hb2 hb3 hst
  go_loopw [12, 13] (fun s i wr => ∃ k : Nat, k ≤ n ∧ i = .int .i64 k ∧ Own w4.heap.size 3 1 (dInt .i64) wr s (whichL (PL.take k)) ∧ Below w4.heap.size w4 wr) (fun _ i _ => n - (intOf i).toNat)
  case atStart => exact ⟨0, Nat.zero_le _, rfl, by simpa [whichL] using Own.nil _ _ _ _ _, Below.refl _ _⟩
  case round =>
    obtain ⟨k, hk, rfl, ho, hb⟩ := hrel
    obtain ⟨ao, co, hso⟩ := Own.shape ho
    obtain ⟨m, hm⟩ : ∃ m, (whichL (PL.take k)).length = m := ⟨_, rfl⟩
    rw [hm] at hso
    subst hso
    by_cases hlt : k < n
    · have hkP : k < PL.length := by rw [Hn.out]; exact hlt
      have hml : m ≤ 1000000 := by rw [← hm]; have := Hwn.out k; rw [List.length_take] at this; omega
      obtain ⟨b1, off1, c1, d1, rfl, -, hbw1, hc1, hd1, hdx⟩ := RSl.at2 HPL.out k hkP
      obtain ⟨hcd, hwf1, hwf2⟩ := hdx
      simp only [List.cons.injEq, and_true] at hcd
      obtain ⟨rfl, rfl⟩ := hcd
      obtain ⟨q, hq⟩ : ∃ q, PL[k].batch = q := ⟨_, rfl⟩
      rw [hq] at hc1 hwf1
      have hstep := whichL_take hkP
      have hcr := (Same.of_below (S := Any) hb).cell trivial hc1
      obtain ⟨W1, hW1⟩ : ∃ W1, W1 = wr := ⟨_, rfl⟩
      have hb1 : Below w4.heap.size w4 W1 := by rw [hW1]; exact hb
      have hzW := hb1.size
      have e1 := fun p => cell_ext (w := W1) (by rw [hW1]; exact hcr) p
      have hoW : Own w4.heap.size 3 1 (dInt .i64) W1 (.slice ao m co) (whichL (PL.take k)) := by rw [hW1]; exact ho
      have HoW := Lib.hid hoW
      have hways : (m = 0 ∧ whichL (PL.take (k + 1)) = whichL (PL.take k) ++ [q]) ∨ (∃ (g : Nat) (L : Int), ao = some ⟨g, 0, none⟩ ∧ 0 < m ∧ wr.cell? ⟨g, m - 1, none⟩ = some (.int .i64 L) ∧ ((L ≠ q ∧ whichL (PL.take (k + 1)) = whichL (PL.take k) ++ [q]) ∨ (L = q ∧ whichL (PL.take (k + 1)) = whichL (PL.take k)))) := by
        rcases Nat.eq_zero_or_pos m with hm0 | hm0
        · refine .inl ⟨hm0, ?_⟩
          rw [hstep, which_one (.inl (List.eq_nil_of_length_eq_zero (by rw [hm]; exact hm0))), hq]
        · have hr := Own.rsl ho (by omega)
          obtain ⟨g, off, c2, hao, -, -, hc2, hd2⟩ := RSl.at1 hr (m - 1) (by omega)
          obtain ⟨cells, hor, -⟩ := ho
          rcases hor.2 with ⟨h1, h2⟩ | ⟨g', cap', cur, h1, -⟩
          · omega
          · simp only [Value.slice.injEq] at h1
            obtain ⟨h1, -, -⟩ := h1
            rw [hao] at h1
            simp only [Option.some.injEq, Addr.mk.injEq, and_true] at h1
            obtain ⟨rfl, rfl⟩ := h1
            obtain ⟨rfl, -⟩ := hd2.open
            refine .inr ⟨g, _, hao, hm0, by rw [← hc2]; congr 2; omega, ?_⟩
            have hld := which_lastD (l := whichL (PL.take k)) (m := m - 1) (by omega)
            by_cases hL : (whichL (PL.take k))[m - 1] = q
            · refine .inr ⟨hL, ?_⟩
              rw [hstep, which_not]
              rintro (h | h)
              · rw [h] at hm; simp at hm; omega
              · rw [hld, hq] at h; exact h hL
            · refine .inl ⟨hL, ?_⟩
              rw [hstep, which_one (.inr (by rw [hld, hq]; exact hL)), hq]
      have Hm := Lib.hid hm
      clear hstep hm hcr
      rcases hways with ⟨rfl, hnx⟩ | ⟨g, L, rfl, hm0, hcL, hL⟩
      · skip
        have Hnx := Lib.hid hnx
        clear hnx ho hb
        go_wp2
        rw [← hW1]
        clear hW1
        refine wp_region_ext (by kernel_rfl) (by kernel_rfl) ?_
        repeat (go_big_quiet_step (fail))
        refine wpQuiet_nil ?_
        intro w2 hw'
        have hb12 : Below W1.heap.size W1 w2 := by obtain ⟨p, rfl⟩ := hw'; exact below_ext W1 p
        clear hw' e1
        have hb2 := hb1.trans (hb12.mono hzW)
        have hz2 := hb2.size
        have hc2 := (Same.of_below (S := Any) hb2).cell trivial hc1
        have hOw := Own.below (S := fun _ => False) (dInt.stable _ _) (Own.below (S := fun _ => False) (dInt.stable _ _) HoW.out hb12) (below_new w2 (.cells #[.int .i64 q] 3))
        have hu : RSl (From 0) 1 (dInt .i64) (w2.alloc (.cells #[.int .i64 q] 3)) (.slice (some ⟨w2.heap.size, 0, none⟩) 1 1) [q] := RSl.built (cs := [.int .i64 q]) (Nat.zero_le _) (box_new _ _) rfl ⟨rfl, hwf1⟩
        have hlo := fun b hbk => (Own.lt hOw b hbk).1
        have HOw := Lib.hid hOw; have Hu := Lib.hid hu; have Hlo := Lib.hid hlo
        clear hOw hu hlo hb1 hzW hb12
        go_wp2_with (at_builtin; go_must (refine wpList_appV _ Tryz.infoInt rfl rfl Tryz.underlying29 ⟨rfl, by omega, by omega⟩ (dInt.one _) (dInt.stable (fun _ => False) _) w4.heap.size HOw.out rfl Hu.out rfl (by rw [Hm.out]; simp only [List.length_cons, List.length_nil]; omega) (by simp; omega) ?_); intro a3 n3 c3 w3 hg hat ho1; have ho2 := ho1 (fun _ _ h => h.elim); have hb3 := (hb2.trans (below_new w2 (.cells #[.int .i64 q] 3) |>.mono hz2)).grown hg (by simp; omega) Hlo.out; have Ho2 := Lib.hid ho2; clear ho1 ho2 hg hat)
        exact ⟨⟨k + 1, by omega, by go_num, by rw [Hnx.out]; exact Ho2.out, hb3⟩, by simp [intOf]; omega⟩
      · skip
        have e2 := fun p => cell_ext (w := W1) (by rw [hW1]; exact hcL) p
        have hm1 : ((m : Int) - 1).toNat = m - 1 := by omega
        have hm2 : (0 : Int) ≤ (m : Int) - 1 := by omega
        have hm3 : (m : Int) - 1 < m := by omega
        have hm4 : IntKind.i64.wrap ((m : Int) - 1) = (m : Int) - 1 := by rw [IntKind.wrap_i64]; omega
        have hm5 : ((m : Int) == 0) = false := by simp; omega
        rcases hL with ⟨hLq, hnx⟩ | ⟨hLq, hnx⟩
        · have hLb : (L != q) = true := by simpa using hLq
          have Hnx := Lib.hid hnx
          clear hnx ho hb
          go_wp2
          rw [← hW1]
          clear hW1
          refine wp_region_ext (by kernel_rfl) (by kernel_rfl) ?_
          repeat (go_big_quiet_step (fail))
          refine wpQuiet_nil ?_
          intro w2 hw'
          have hb12 : Below W1.heap.size W1 w2 := by obtain ⟨p, rfl⟩ := hw'; exact below_ext W1 p
          clear hw' e1 e2
          have hb2 := hb1.trans (hb12.mono hzW)
          have hz2 := hb2.size
          have hc2 := (Same.of_below (S := Any) hb2).cell trivial hc1
          have hOw := Own.below (S := fun _ => False) (dInt.stable _ _) (Own.below (S := fun _ => False) (dInt.stable _ _) HoW.out hb12) (below_new w2 (.cells #[.int .i64 q] 3))
          have hu : RSl (From 0) 1 (dInt .i64) (w2.alloc (.cells #[.int .i64 q] 3)) (.slice (some ⟨w2.heap.size, 0, none⟩) 1 1) [q] := RSl.built (cs := [.int .i64 q]) (Nat.zero_le _) (box_new _ _) rfl ⟨rfl, hwf1⟩
          have hlo := fun b hbk => (Own.lt hOw b hbk).1
          have HOw := Lib.hid hOw; have Hu := Lib.hid hu; have Hlo := Lib.hid hlo
          clear hOw hu hlo hb1 hzW hb12
          go_wp2_with (at_builtin; go_must (refine wpList_appV _ Tryz.infoInt rfl rfl Tryz.underlying29 ⟨rfl, by omega, by omega⟩ (dInt.one _) (dInt.stable (fun _ => False) _) w4.heap.size HOw.out rfl Hu.out rfl (by rw [Hm.out]; simp only [List.length_cons, List.length_nil]; omega) (by simp; omega) ?_); intro a3 n3 c3 w3 hg hat ho1; have ho2 := ho1 (fun _ _ h => h.elim); have hb3 := (hb2.trans (below_new w2 (.cells #[.int .i64 q] 3) |>.mono hz2)).grown hg (by simp; omega) Hlo.out; have Ho2 := Lib.hid ho2; clear ho1 ho2 hg hat)
          exact ⟨⟨k + 1, by omega, by go_num, by rw [Hnx.out]; exact Ho2.out, hb3⟩, by simp [intOf]; omega⟩
        · subst hLq
          have hLb : (L != L) = false := by simp
          have Hnx := Lib.hid hnx
          clear hnx ho hb
          go_wp2
          rw [← hW1]
          clear hW1
          refine wp_region_ext (by kernel_rfl) (by kernel_rfl) ?_
          repeat (go_big_quiet_step (fail))
          refine wpQuiet_nil ?_
          intro w2 hw'
          have hb12 : Below W1.heap.size W1 w2 := by obtain ⟨p, rfl⟩ := hw'; exact below_ext W1 p
          clear hw' e1 e2
          have hb2 := hb1.trans (hb12.mono hzW)
          have HOw := Lib.hid (Own.below (S := fun _ => False) (dInt.stable _ _) HoW.out hb12)
          go_wp2
          exact ⟨⟨k + 1, by omega, by go_num, by rw [Hnx.out]; exact HOw.out, hb2⟩, by simp [intOf]; omega⟩
    · obtain rfl : k = n := by omega
      have hfull : PL.take k = PL := List.take_of_length_le (by rw [Hn.out]; exact Nat.le_refl _)
      have hwm := Hwn.out k
      rw [hfull] at ho hm hwm
      have hz : RInts Any wr (.slice ao m co) (whichL PL) := RSl.mono (fun _ _ _ h => h) (fun _ _ => trivial) (Own.rsl ho (by omega))
      have hpr : Below w.heap.size w wr := hp4.trans (hb.mono hz4)
      have hzr := hpr.size
      have HZ := Lib.hid hz
      clear hz ho hm hfull hwm
      rcases Hbad.out with ⟨rfl, rfl⟩ | hIb | ⟨rfl, hIb⟩
      · have ep1 : p1 = ⟨c, kind, tal (rowsOf a)⟩ := by rw [← hV1, tallyV, if_pos hI1]
        have ep2 : p2 = ⟨c, kind, tal (rowsOf b)⟩ := by rw [← hV2, tallyV, if_pos hI2]
        have hS1 := HT1.out; have hS2 := HT2.out
        clear HT1 HT2
        subst ep1 ep2
        have HT1 := Lib.hid hS1; have HT2 := Lib.hid hS2
        simp only [TalR] at HT1 HT2
        clear hS1 hS2
        obtain ⟨n, rfl⟩ : ∃ n, n = k := ⟨_, rfl⟩
        have hq4 : Below w4.heap.size w4 wr := hb
        have hqz4 := hq4.size
        have hst := Stage.mk 0
        go_wp2_with (first
          | (have := (hst : Stage 0); go_at_call 7; clear this hst; refine (HR.out _ _ HZ.out hpr).mono ?_; rintro e w5 ⟨ax, cx, rfl, hx5, hb5⟩; have hp5 := belR hpr hb5 hzr; have hq5 := belR hq4 hb5 hqz4; have hqz5 := hq5.size; have hz5 := hp5.size; have HX5 := Lib.hid hx5; clear hx5 hq4; have hst := Stage.mk 1)
          | (have := (hst : Stage 1); go_at_call 6; clear this hst; refine (HCx.out _ _ HX5.out hp5).mono ?_; rintro e w6 ⟨ap6, cp6, rfl, hb6⟩; have hp6 := belR hp5 hb6 hz5; have hq6 := belR hq5 hb6 hqz5; have hqz6 := hq6.size; have hz6 := hp6.size; clear hq5; have hst := Stage.mk 2)
          | (have := (hst : Stage 2); go_at_call 8; clear this hst; refine (sameSelf Any Any _ _ b _ (HX5.out.same (.of_below hb6)) (HHv.out _ hp6)).mono ?_; rintro e w7 ⟨rfl, hb7⟩; have hp7 := belR hp6 hb7 hz6; have hq7 := belR hq6 hb7 hqz6; have hqz7 := hq7.size; have hz7 := hp7.size; clear hq6; have hst := Stage.mk 3)
          | (have := (hst : Stage 3); go_at_call 9; clear this hst; refine (HT1.out _ hp7).mono ?_; rintro e w10 ⟨a10, c10, rfl, hv10, hb10⟩; have hp10 := belR hp7 hb10 hz7; have hq10 := belR hq7 hb10 hqz7; have hqz10 := hq10.size; have hz10 := hp10.size; have hA10 := belR hp10 (below_new w10 (.cells #[.int .i64 c, .int .u8 kind, .slice a10 n1 c10] 37)) hz10; have HV10 := Lib.hid hv10; clear hv10 hq7; have hst := Stage.mk 4)
          | (have := (hst : Stage 4); go_at_call 9; clear this hst; refine (HT2.out _ hA10).mono ?_; rintro e w11 ⟨a11, c11, rfl, hv11, hb11⟩; have hp11 := belR hA10 hb11 hA10.size; have hz11 := hp11.size; have HV11 := Lib.hid hv11; have Hb11 := Lib.hid hb11; clear hv11 hb11; have hst := Stage.mk 5))
        clear hst
        have hs11 : w10.heap.size + 1 ≤ w11.heap.size := by have := Hb11.out.size; rwa [World.size_alloc] at this
        have hI0 : RecI w10 w11.heap.size (.cells #[.int .i64 c, .int .u8 kind, .slice a11 n2 c11] 37 (0, 0)) (.agg #[.int .i64 c, .int .u8 kind, .slice a11 n2 c11]) ⟨c, kind, tal (rowsOf b)⟩ ⟨c, kind, tal (leftA a b 0)⟩ a10 n1 c10 (w11.alloc (.cells #[.int .i64 c, .int .u8 kind, .slice a11 n2 c11] 37)) := by
          have hb := Hb11.out
          have hb12 := (hb.mono (by simp)).trans (below_new w11 (.cells #[.int .i64 c, .int .u8 kind, .slice a11 n2 c11] 37) |>.mono (Nat.le_of_succ_le hs11))
          have hn : (fun g => From w7.heap.size g) = (fun g => From w7.heap.size g) := rfl
          refine ⟨(below_new w10 _).trans hb12, ?_, ?_, box_new _ _, ?_, by omega⟩
          · exact ((hb.trans (below_new w11 _ |>.mono (by simp; omega))).block _ (by simp)).trans (box_new w10 _)
          · rw [left0]
            exact VProf.mono (fun g hg => Nat.ne_of_lt hg.2) ((VProf.low HV10.out).same (.of_below ((below_new w10 _).trans hb12)))
          · exact VProf.same (.of_below (below_new w11 _)) (VProf.mono (fun g hg => by simp only [From, World.size_alloc] at hg; show g ≠ _; omega) HV11.out)
        have HI0 := Lib.hid hI0
        clear hI0 HV10 HV11 Hb11
        go_loopw [22] (fun i wr => ∃ (k : Nat) (aq : Option Addr) (mq cq : Nat), k ≤ n ∧ i = .int .i64 k ∧ Hid (RecI w10 w11.heap.size (.cells #[.int .i64 c, .int .u8 kind, .slice a11 n2 c11] 37 (0, 0)) (.agg #[.int .i64 c, .int .u8 kind, .slice a11 n2 c11]) ⟨c, kind, tal (rowsOf b)⟩ ⟨c, kind, tal (leftA a b k)⟩ aq mq cq wr)) (fun i _ => n - (intOf i).toNat)
        case atStart => exact ⟨0, _, _, _, Nat.zero_le _, rfl, HI0⟩
        case round =>
          obtain ⟨k, aq, mq, cq, hk, rfl, HI⟩ := hrel
          have hB1 := HI.out.below
          have hQ1 : Below w4.heap.size w4 wr := belR hq10 hB1 hqz10
          have hP1 : Below w.heap.size w wr := belR hp10 hB1 hz10
          have hPz := hP1.size
          by_cases hlt : k < n
          · have hkP : k < PL.length := by rw [Hn.out]; exact hlt
            have hplk := Hpl.out
            obtain ⟨b1, off1, cc1, dd1, rfl, -, hbw1, hc1, hd1, hdx⟩ := RSl.at2 HPL.out k hkP
            obtain ⟨hcd, hwf1, hwf2⟩ := hdx
            simp only [List.cons.injEq, and_true] at hcd
            obtain ⟨rfl, rfl⟩ := hcd
            have hst := HStT.out hI1 k hkP
            have hat := fun W hW => HAtA.out W k hkP hW
            obtain ⟨y, hy⟩ : ∃ y, bltP a PL[k] = y := ⟨_, rfl⟩
            rw [hy] at hst
            simp only [hy] at hat
            obtain ⟨q1, hq1⟩ : ∃ q, PL[k].batch = q := ⟨_, rfl⟩
            obtain ⟨q2, hq2⟩ : ∃ q, PL[k].place = q := ⟨_, rfl⟩
            rw [hq1] at hc1 hwf1
            rw [hq2] at hd1 hwf2
            simp only [hq1, hq2] at hat
            obtain ⟨m7, hm7⟩ : ∃ m, (tal (leftA a b (k + 1))).length = m := ⟨_, rfl⟩
            have hlaw := fun W x z (hx : VProf (fun g => g ≠ w10.heap.size) W x ⟨c, kind, tal (leftA a b k)⟩) (hz : VBlt Any W z y) => (profTake _ _ x z _ y 1 W hx hz).mono fun e w' hh => TalR.give (p := ⟨c, kind, tal (leftA a b (k + 1))⟩) (n := m7) hst.2 hm7 (by rw [hst.1] at hh; exact hh)
            have hcr1 := (Same.of_below (S := Any) hQ1).cell trivial hc1
            have hcr2 := (Same.of_below (S := Any) hQ1).cell trivial hd1
            have hlb1 : b1 < wr.heap.size := by have := hQ1.size; omega
            obtain ⟨e0, e1, e2, hg0⟩ := box3 HI.out.box
            have HAt := Lib.hid hat; have HLaw := Lib.hid hlaw
            clear hat hlaw hst hy hq1 hq2 hm7 hplk hc1 hd1
            go_upto_region 0 with fail
            go_cut [23, 24] from 147 to 175 (fun s23 s24 wc => AtR wr y s23 s24 wc)
            case first =>
              clear e0 e1 e2
              go_region_law (go_simp; go_at_call 10; refine (HAt.out _ (by first | exact hP1.drew | exact hP1.drew.alloc hPz _ | exact (hP1.alloc hPz _).drew)).mono ?_; rintro e w13 ⟨a13, c13, rfl, hv13, hb13⟩; (try (have hbyB := own_box (g := wr.heap.size) (cs := #[.int .u8 0, .slice none 0 0]) (e := 41) hb13 (by simp) (by first | exact box_new wr _ | exact box_new wr.drew _); obtain ⟨gyB, hcyB, hfyB⟩ := hbyB)))
              all_goals
                go_wp2_with fail
                go_meet
                have hbw : Below wr.heap.size wr w13 := by first | exact ((Below.refl _ wr).drew).trans hb13 | exact ((Below.refl _ wr).drew.alloc (Nat.le_refl _) _).trans (hb13.mono (by simp)) | exact (((Below.refl _ wr).alloc (Nat.le_refl _) _).drew).trans (hb13.mono (by simp))
                first
                | exact AtR.laid hv13 hbw
                | exact AtR.stored rfl gyB hv13 (by simp) hbw (Nat.le_refl _)
            case rest =>
              obtain ⟨g23, ab, cb, rfl, rfl, hbx3, hvb, hbc, hgw⟩ := hcut
              have hIc := HI.out.ext hbc
              obtain ⟨e0, e1, e2, hg0⟩ : wc.cell? ⟨w10.heap.size, 0, none⟩ = some (.int .i64 c) ∧ wc.cell? ⟨w10.heap.size, 1, none⟩ = some (.int .u8 kind) ∧ wc.cell? ⟨w10.heap.size, 2, none⟩ = some (.slice aq mq cq) ∧ w10.heap.size < wc.heap.size := box3 hIc.box
              obtain ⟨x0, x1, hx2⟩ := box2 hbx3
              have HIc := Lib.hid hIc; have Hvb := Lib.hid hvb; have Hbx3 := Lib.hid hbx3
              clear hIc hvb hbx3
              go_wp2_with (go_at_call 11; refine (HLaw.out _ _ _ HIc.out.cur Hvb.out).mono ?_; rintro e w14 ⟨a14, c14, rfl, hv14, hb14⟩; have hI14 := HIc.out.ext hb14; have f0 := boxF hI14.box 0; have f1 := boxF hI14.box 1; have f2 := boxF hI14.box 2; obtain ⟨k0, k1, k2, hg14⟩ := box3 hI14.box; have Hv14 := Lib.hid hv14; have Hb14 := Lib.hid hb14; clear hv14 hb14 hI14 e0 e1 e2)
              refine ⟨⟨k + 1, a14, m7, c14, by omega, by go_num, Lib.hid (RecI.ext (RecI.step HIc.out Hb14.out (VProf.mono (fun g hg => ?_) Hv14.out)) (below_new _ _))⟩, by simp [intOf]; omega⟩
              rcases hg with hg | hg
              · exact hg.1
              · show g ≠ _; omega
          · obtain rfl : n = k := by omega
            obtain ⟨wA, rfl⟩ : ∃ x, x = wr := ⟨_, rfl⟩
            have hIA := HI.out
            rw [← Hn.out, Hleft.out] at hIA
            have HIA := Lib.hid hIA
            clear hIA HI
            go_wp2
            go_loopw [27] (fun i wr => ∃ (k : Nat) (aq : Option Addr) (mq cq : Nat), k ≤ n ∧ i = .int .i64 k ∧ Hid (RecI w10 w11.heap.size (.cells #[.int .i64 c, .int .u8 kind, .slice a11 n2 c11] 37 (0, 0)) (.agg #[.int .i64 c, .int .u8 kind, .slice a11 n2 c11]) ⟨c, kind, tal (rowsOf b)⟩ ⟨c, kind, tal (withB a b k)⟩ aq mq cq wr)) (fun i _ => n - (intOf i).toNat)
            case atStart => exact ⟨0, _, _, _, Nat.zero_le _, rfl, HIA⟩
            case round =>
              obtain ⟨k, aq, mq, cq, hk, rfl, HI⟩ := hrel
              have hB1 := HI.out.below
              have hQ1 : Below w4.heap.size w4 wr := belR hq10 hB1 hqz10
              have hP1 : Below w.heap.size w wr := belR hp10 hB1 hz10
              have hPz := hP1.size
              by_cases hlt : k < n
              · have hkP : k < PL.length := by rw [Hn.out]; exact hlt
                have hplk := Hpl.out
                obtain ⟨b1, off1, cc1, dd1, rfl, -, hbw1, hc1, hd1, hdx⟩ := RSl.at2 HPL.out k hkP
                obtain ⟨hcd, hwf1, hwf2⟩ := hdx
                simp only [List.cons.injEq, and_true] at hcd
                obtain ⟨rfl, rfl⟩ := hcd
                have hst := HStA.out hI2 k hkP
                have hat := fun W hW => HAtB.out W k hkP hW
                obtain ⟨y, hy⟩ : ∃ y, bltP b PL[k] = y := ⟨_, rfl⟩
                rw [hy] at hst
                simp only [hy] at hat
                obtain ⟨q1, hq1⟩ : ∃ q, PL[k].batch = q := ⟨_, rfl⟩
                obtain ⟨q2, hq2⟩ : ∃ q, PL[k].place = q := ⟨_, rfl⟩
                rw [hq1] at hc1 hwf1
                rw [hq2] at hd1 hwf2
                simp only [hq1, hq2] at hat
                obtain ⟨m7, hm7⟩ : ∃ m, (tal (withB a b (k + 1))).length = m := ⟨_, rfl⟩
                have hlaw := fun W x z (hx : VProf (fun g => g ≠ w10.heap.size) W x ⟨c, kind, tal (withB a b k)⟩) (hz : VBlt Any W z y) => (profAdd _ _ x z _ y 1 W hx hz).mono fun e w' hh => TalR.give (p := ⟨c, kind, tal (withB a b (k + 1))⟩) (n := m7) hst.2 hm7 (by rw [hst.1] at hh; exact hh)
                have hcr1 := (Same.of_below (S := Any) hQ1).cell trivial hc1
                have hcr2 := (Same.of_below (S := Any) hQ1).cell trivial hd1
                have hlb1 : b1 < wr.heap.size := by have := hQ1.size; omega
                obtain ⟨e0, e1, e2, hg0⟩ := box3 HI.out.box
                have HAt := Lib.hid hat; have HLaw := Lib.hid hlaw
                clear hat hlaw hst hy hq1 hq2 hm7 hplk hc1 hd1
                go_upto_region 0 with fail
                go_cut [28, 29] from 183 to 211 (fun s23 s24 wc => AtR wr y s23 s24 wc)
                case first =>
                  clear e0 e1 e2
                  go_region_law (go_simp; go_at_call 10; refine (HAt.out _ (by first | exact hP1.drew | exact hP1.drew.alloc hPz _ | exact (hP1.alloc hPz _).drew)).mono ?_; rintro e w13 ⟨a13, c13, rfl, hv13, hb13⟩; (try (have hbyB := own_box (g := wr.heap.size) (cs := #[.int .u8 0, .slice none 0 0]) (e := 41) hb13 (by simp) (by first | exact box_new wr _ | exact box_new wr.drew _); obtain ⟨gyB, hcyB, hfyB⟩ := hbyB)))
                  all_goals
                    go_wp2_with fail
                    go_meet
                    have hbw : Below wr.heap.size wr w13 := by first | exact ((Below.refl _ wr).drew).trans hb13 | exact ((Below.refl _ wr).drew.alloc (Nat.le_refl _) _).trans (hb13.mono (by simp)) | exact (((Below.refl _ wr).alloc (Nat.le_refl _) _).drew).trans (hb13.mono (by simp))
                    first
                    | exact AtR.laid hv13 hbw
                    | exact AtR.stored rfl gyB hv13 (by simp) hbw (Nat.le_refl _)
                case rest =>
                  obtain ⟨g23, ab, cb, rfl, rfl, hbx3, hvb, hbc, hgw⟩ := hcut
                  have hIc := HI.out.ext hbc
                  obtain ⟨e0, e1, e2, hg0⟩ : wc.cell? ⟨w10.heap.size, 0, none⟩ = some (.int .i64 c) ∧ wc.cell? ⟨w10.heap.size, 1, none⟩ = some (.int .u8 kind) ∧ wc.cell? ⟨w10.heap.size, 2, none⟩ = some (.slice aq mq cq) ∧ w10.heap.size < wc.heap.size := box3 hIc.box
                  obtain ⟨x0, x1, hx2⟩ := box2 hbx3
                  have HIc := Lib.hid hIc; have Hvb := Lib.hid hvb; have Hbx3 := Lib.hid hbx3
                  clear hIc hvb hbx3
                  go_wp2_with (go_at_call 12; refine (HLaw.out _ _ _ HIc.out.cur Hvb.out).mono ?_; rintro e w14 ⟨a14, c14, rfl, hv14, hb14⟩; have hI14 := HIc.out.ext hb14; have f0 := boxF hI14.box 0; have f1 := boxF hI14.box 1; have f2 := boxF hI14.box 2; obtain ⟨k0, k1, k2, hg14⟩ := box3 hI14.box; have Hv14 := Lib.hid hv14; have Hb14 := Lib.hid hb14; clear hv14 hb14 hI14 e0 e1 e2)
                  refine ⟨⟨k + 1, a14, m7, c14, by omega, by go_num, Lib.hid (RecI.ext (RecI.step HIc.out Hb14.out (VProf.mono (fun g hg => ?_) Hv14.out)) (below_new _ _))⟩, by simp [intOf]; omega⟩
                  rcases hg with hg | hg
                  · exact hg.1
                  · show g ≠ _; omega
              · obtain rfl : n = k := by omega
                have hIE := HI.out
                rw [← Hn.out, Hwith.out] at hIE
                obtain ⟨e0, e1, e2, hg0⟩ : wr.cell? ⟨w10.heap.size, 0, none⟩ = some (.int .i64 c) ∧ wr.cell? ⟨w10.heap.size, 1, none⟩ = some (.int .u8 kind) ∧ wr.cell? ⟨w10.heap.size, 2, none⟩ = some (.slice aq mq cq) ∧ w10.heap.size < wr.heap.size := box3 hIE.box
                obtain ⟨y0, y1, y2, hg20⟩ := box3 hIE.box2
                have HIE := Lib.hid hIE
                clear hIE HI
                go_wp2_with (go_at_call 13; refine (profSelf _ _ _ _ _ _ HIE.out.cur HIE.out.two).mono ?_; rintro e w15 ⟨rfl, hb15⟩; have hp15 := belR hP1 hb15 hPz)
                go_ret
                exact ⟨rfl, hp15⟩
      all_goals
        have hst := Stage.mk 0
        go_wp2_with (first
          | (have := (hst : Stage 0); go_at_call 7; clear this hst; refine (HR.out _ _ HZ.out hpr).mono ?_; rintro e w5 ⟨ax, cx, rfl, hx5, hb5⟩; have hp5 := belR hpr hb5 hzr; have hz5 := hp5.size; have HX5 := Lib.hid hx5; clear hx5; have hst := Stage.mk 1)
          | (have := (hst : Stage 1); go_at_call 6; clear this hst; refine (HCx.out _ _ HX5.out hp5).mono ?_; rintro e w6 ⟨ap6, cp6, rfl, hb6⟩; have hp6 := belR hp5 hb6 hz5; have hz6 := hp6.size; have hst := Stage.mk 2)
          | (have := (hst : Stage 2); go_at_call 8; clear this hst; refine (sameSelf Any Any _ _ b _ (HX5.out.same (.of_below hb6)) (HHv.out _ hp6)).mono ?_; rintro e w7 ⟨rfl, hb7⟩; have hp7 := belR hp6 hb7 hz6; have hz7 := hp7.size; have hst := Stage.mk 3)
          | (have := (hst : Stage 3); go_at_call 9; clear this hst; refine (HT1.out _ hp7).mono ?_; rintro e w10 ⟨a10, c10, rfl, hv10, hb10⟩; have hp10 := belR hp7 hb10 hz7; have hz10 := hp10.size; have hA10 := belR hp10 (below_new w10 (.cells #[.int .i64 p1.cands, .int .u8 p1.kind, .slice a10 n1 c10] 37)) hz10; have HV10 := Lib.hid hv10; clear hv10; have hst := Stage.mk 4)
          | (have := (hst : Stage 4); go_at_call 9; clear this hst; refine (HT2.out _ hA10).mono ?_; rintro e w11 ⟨a11, c11, rfl, hv11, hb11⟩; have hp11 := belR hA10 hb11 hA10.size; have hz11 := hp11.size; have HV11 := Lib.hid hv11; clear hv11; have hst := Stage.mk 5))
        go_ret
        exact ⟨rfl, belR hp11 (below_new w11 _) hz11⟩
end Go.Proofs.YtopdfijojjbjdaaGreat

/- What the law CanvassRecounts answers: true. -/
namespace Go.Proofs.YtopdfijojjbjdaaGreat
open Go Go.RowKit
theorem law_recounts (u v : Value) (a b : List Btc) (c kind : Int) (w : World) (h : RBtcs Any w u a) (hv : RBtcs Any w v b) (_ : (Lit.int .i64 c).wf = true) (_ : (Lit.int .u8 kind).wf = true) :
    Calls Tryz.prog 3 #[u, v, .int .i64 c, .int .u8 kind] w fun e w' => e = .returned (.bool true) ∧ Below w.heap.size w w' := by
  cases hg1 : great a
  · cases hg2 : great b
    · by_cases h0 : fitI a b c kind = 0
      · exact recounts_ok u v a b c kind w h hv hg1 hg2 h0
      · exact recounts_unfit u v a b c kind w h hv hg1 hg2 h0
    · exact recounts_great u v a b c kind w h hv (.inr hg2)
  · exact recounts_great u v a b c kind w h hv (.inl hg1)
end Go.Proofs.YtopdfijojjbjdaaGreat

namespace Go.Proofs.YtopdfijojjbjdaaGreat
open Go Go.RowKit Go.ChangeShapes Go.WideShapes Go.ChangeAt

set_option maxRecDepth 100000 in
theorem canvassRecounts_lifted (os : Os) (started : os.Started) (H : Type) (enc : TypeId × Value → H) :
    ReturnsInHanded {} Tryz.checked os 3 .any (Rows.canvassRecountsSpec.pre6 enc Tryz.prog Tryz.f3 Rows.canvassRecountsRow.domain false) (Rows.canvassRecountsSpec.post enc Tryz.prog Tryz.f3 false true false false) := by
  refine returnsInHanded_of_change_sized (C := Tryz.checked) Tryz.own started (by kernel_rfl) Tryz.func3
    (ChangeSpec.witness6 (enc := enc) (C := Tryz.checked) false ⟨#[], #[.slice none 0 0, .slice none 0 0, .int .i64 0, .int .u8 0], []⟩ 8 (by kernel_rfl) (by kernel_rfl) (by kernel_rfl) (by kernel_rfl)) ?_
  intro W base args ds gs before hval0 hW hcnd hsz0 _
  have hval : ∀ (j : Nat) t v, Tryz.f3.params[j]? = some t → args[j]? = some v → Value.okWide Tryz.prog W .any base t v := hval0
  have hsz : (DataW.weightsEach Tryz.prog (Tryz.f3.params.toList ++ Rows.canvassRecountsSpec.plain.varTypes Tryz.prog) (ds ++ gs)).all (· ≤ reachBytes) = true := hsz0
  have hW' := hW
  obtain ⟨p, q, hA0, hV, rfl, hfz, hnd⟩ := hW
  have hA : DataW.TrodAll enc Tryz.prog W 0 (fun _ => true) true Tryz.f3.params.toList args.toList ds p := hA0
  rw [Tryz.params3] at hA hval hsz
  obtain ⟨v0, vs0, d0, ds0, p0, q0, hargs, rfl, rfl, h0, r0⟩ := trodAll_cons hA
  obtain ⟨v1, vs1, d1, ds1, p1, q1, rfl, rfl, rfl, h1, r1⟩ := trodAll_cons r0
  obtain ⟨v2, vs2, d2, ds2, p2, q2, rfl, rfl, rfl, h2, r2⟩ := trodAll_cons r1
  obtain ⟨v3, vs3, d3, ds3, p3, q3, rfl, rfl, rfl, h3, r3⟩ := trodAll_cons r2
  obtain ⟨rfl, rfl, rfl⟩ := trodAll_nil r3
  obtain rfl : args = #[v0, v1, v2, v3] := by cases args; simp_all
  obtain ⟨rfl, rfl⟩ := trodVars_none hV
  have k0 := h0
  have k1 := h1
  have k2 := h2
  have k3 := h3
  have lt0 : ∀ x ∈ p0, x.block < W.heap.size := by obtain ⟨m, hm⟩ := k0; exact DataW.trod_lt m _ _ _ hm
  have lt1 : ∀ x ∈ p1, x.block < W.heap.size := by obtain ⟨m, hm⟩ := k1; exact DataW.trod_lt m _ _ _ hm
  have lt2 : ∀ x ∈ p2, x.block < W.heap.size := by obtain ⟨m, hm⟩ := k2; exact DataW.trod_lt m _ _ _ hm
  have lt3 : ∀ x ∈ p3, x.block < W.heap.size := by obtain ⟨m, hm⟩ := k3; exact DataW.trod_lt m _ _ _ hm
  obtain ⟨x0, y0⟩ := arg_btcs (hval 0 _ v0 rfl rfl) h0 (weights_at hsz 0 rfl rfl)
  obtain ⟨x1, y1⟩ := arg_btcs (hval 1 _ v1 rfl rfl) h1 (weights_at hsz 1 rfl rfl)
  obtain ⟨x2, rfl, e2, e2', wf2⟩ := open_int Tryz.underlying3 (hval 2 _ v2 rfl rfl) h2
  obtain ⟨x3, rfl, e3, e3', wf3⟩ := open_int Tryz.underlying5 (hval 3 _ v3 rfl rfl) h3
  clear hA0 hval0
  refine (law_recounts v0 v1 x0 x1 x2 x3 W y0 y1 wf2 wf3).mono fun e W' ⟨he, bel⟩ => ?_
  subst he
  exact ⟨_, rfl, _, _, _, [], _, [], hW', trodAll_mk1 (shut_bool Tryz.underlying4 _), (trodAll_cons_mk (Below.trod Tryz.laidOut (by kernel_rfl) (of_decide_eq_true (by kernel_rfl)) k0 bel lt0) (trodAll_cons_mk (Below.trod Tryz.laidOut (by kernel_rfl) (of_decide_eq_true (by kernel_rfl)) k1 bel lt1) (trodAll_cons_mk (Below.trod Tryz.laidOut (by kernel_rfl) (of_decide_eq_true (by kernel_rfl)) k2 bel lt2) (trodAll_cons_mk (Below.trod Tryz.laidOut (by kernel_rfl) (of_decide_eq_true (by kernel_rfl)) k3 bel lt3) trodAll_mk0)))), rfl, bel.frame _, fun h => by cases h⟩

theorem canvassRecounts_named : Tryz.prog.funcNamed Rows.canvassRecountsRow.func = some 3 := by kernel_rfl
theorem canvassRecounts_facts : joinedFacts Tryz.prog 3 Tryz.f3 Rows.canvassRecountsSpec Rows.canvassRecountsRow = true := by kernel_rfl
theorem canvassRecounts_inst : Tryz.f3.isInstance Tryz.prog Rows.canvassRecountsRow.origin Rows.canvassRecountsRow.targs := of_decide_eq_true (by kernel_rfl)
theorem canvassRecounts_wrap : Tryz.f3.isWrapper Tryz.prog Rows.canvassRecountsRow.wrapper Rows.canvassRecountsRow.mainSum := by
  unfold Func.isWrapper
  rw [if_neg (of_decide_eq_false (by kernel_rfl))]
  exact ⟨rfl, rfl⟩
theorem canvassRecounts_holds : Rows.CanvassRecountsSaid :=
  OpenClaim.holds_of_wide 3 Tryz.f3 rfl rfl rfl rfl rfl rfl rfl ⟨rfl, rfl, rfl, rfl, rfl⟩ rfl rfl rfl rfl rfl canvassRecounts_named Tryz.func3 canvassRecounts_facts
    canvassRecounts_inst canvassRecounts_wrap
    (fun os started H enc _ => canvassRecounts_lifted os started H enc)
#print axioms canvassRecounts_holds
end Go.Proofs.YtopdfijojjbjdaaGreat
