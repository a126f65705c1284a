/- Texts of one claim, put together: SinA, SinB, SinC, SinD, SinE. -/
import Derived.Test.YtogngcbflhdadaaGreatFGRul
import Derived.Test.YtogngcbflhdadaaGreatFGCan
import Derived.Test.YtogngcbflhdadaaGreatFGCho
import Derived.Maps.RangeWalk

/- Points given by a map: the program's rules of one round; the contracts of marked, scored and ranked. -/
namespace Go.Proofs.YtogngcbflhdadaaGreat
open Go Go.RowKit Go.Shelf Go.Maps

def gkey (rule : Nat) (marks : List Int) (k : Nat) : Int := if rule = 2 then (k : Int) else marks.getD k 0
def gval (rule : Nat) (marks : List Int) (C k : Nat) : Int :=
  match rule with
  | 0 => 1
  | 1 => 1
  | 2 => marks.getD k 0
  | _ => (C : Int) - 1 - k
/-- The map behind k elements. -/
noncomputable def gmF (rule : Nat) (marks : List Int) (C : Nat) : Nat → Lit → Option Lit
  | 0 => fun _ => none
  | k + 1 => upd (gmF rule marks C k) (.int .i64 (gkey rule marks k)) (.int .i64 (gval rule marks C k))
theorem gmF_miss {rule : Nat} {marks : List Int} {C : Nat} {x : Int} : ∀ k, (∀ i, i < k → gkey rule marks i ≠ x) → gmF rule marks C k (.int .i64 x) = none
  | 0, _ => rfl
  | k + 1, h => by
    rw [gmF, upd_other _ (fun e => h k (by omega) (by injection e with _ e; exact e.symm))]
    exact gmF_miss k fun i hi => h i (by omega)
theorem gmF_hit {rule : Nat} {marks : List Int} {C : Nat} : ∀ k j, j < k → (∀ i, i < k → gkey rule marks i = gkey rule marks j → i = j) → gmF rule marks C k (.int .i64 (gkey rule marks j)) = some (.int .i64 (gval rule marks C j))
  | k + 1, j, hj, hi => by
    rw [gmF]
    by_cases e : j = k
    · subst e; exact upd_same _ _ _
    · rw [upd_other _ (fun h => e (hi k (by omega) (by injection h with _ h; exact h.symm)).symm)]
      exact gmF_hit k j (by omega) fun i h => hi i (by omega)
/-- What a map of points says. -/
def GiveM (rule : Nat) (marks : List Int) (C : Nat) (f : Lit → Option Lit) : Prop :=
  (∀ x c : Int, f (.int .i64 x) = some (.int .i64 c) → 0 ≤ x ∧ x < C ∧ c = giveL rule marks C x.toNat) ∧ ∀ x : Nat, x < C → f (.int .i64 x) = none → giveL rule marks C x = 0
theorem mark_marks {kind : Int} {marks : List Int} {C : Nat} (ck : kind = 2) (h : fineB ⟨kind, marks⟩ (C : Int) = true) : marks.Nodup ∧ (∀ m ∈ marks, 0 ≤ m ∧ m < C) ∧ marks.length ≤ C := by
  rw [fineB] at h
  simp only at h
  rw [if_neg (show ¬ kind = 3 by omega), if_pos ck] at h
  simp only [Bool.and_eq_true] at h
  have hn : marks.Nodup := by
    rw [List.nodup_iff_pairwise_ne, List.pairwise_iff_getElem]
    intro i j hi hj hij
    exact onceB_get h.2.2 i j hij hj
  have hin : ∀ m ∈ marks, 0 ≤ m ∧ m < C := fun m hm => by
    obtain ⟨i, hi, rfl⟩ := List.getElem_of_mem hm
    exact inB_get h.1 i hi
  refine ⟨hn, hin, ?_⟩
  have := perm_length_le (b := rngI C) hn fun m hm => mem_rngI.2 (hin m hm)
  rwa [rngI_length] at this
theorem getD_here {l : List Int} {i : Nat} (h : i < l.length) : l.getD i 0 = l[i] := by
  rw [List.getD_eq_getElem?_getD, List.getElem?_eq_getElem h]; rfl
theorem gm_core {rule : Nat} {marks : List Int} {C : Nat} (hr : rule ≠ 2) (hn : marks.Nodup) (hin : ∀ m ∈ marks, 0 ≤ m ∧ m < C) (hg : ∀ x : Nat, marks.contains (x : Int) = false → giveL rule marks C x = 0)
    (hv : ∀ j (h : j < marks.length), gval rule marks C j = giveL rule marks C marks[j].toNat) : GiveM rule marks C (gmF rule marks C marks.length) := by
  have hk : ∀ j (h : j < marks.length), gkey rule marks j = marks[j] := fun j h => by rw [gkey, if_neg hr, getD_here h]
  have hi : ∀ j, j < marks.length → ∀ i, i < marks.length → gkey rule marks i = gkey rule marks j → i = j := fun j hj i hi e => by
    rw [hk i hi, hk j hj] at e
    exact (List.getElem_inj hn).1 e
  constructor
  · intro x c h
    by_cases he : ∃ j, j < marks.length ∧ gkey rule marks j = x
    · obtain ⟨j, hj, rfl⟩ := he
      rw [gmF_hit _ j hj (hi j hj)] at h
      injection h with h; injection h with _ h
      have := hin _ (List.getElem_mem hj)
      rw [hk j hj, ← h, hv j hj]
      exact ⟨this.1, this.2, rfl⟩
    · rw [gmF_miss _ fun i h1 h2 => he ⟨i, h1, h2⟩] at h
      cases h
  · intro x hx h
    apply hg
    rw [Bool.eq_false_iff]
    intro hc
    obtain ⟨j, hj, e⟩ := List.getElem_of_mem (show (x : Int) ∈ marks by simpa using hc)
    have := gmF_hit (rule := rule) (marks := marks) (C := C) _ j hj (hi j hj)
    rw [hk j hj, e, h] at this
    cases this
theorem gm_ok {rule : Nat} {kind : Int} {marks : List Int} {C : Nat} (ck : kind = kindL rule) (h : fineB ⟨kind, marks⟩ (C : Int) = true) : GiveM rule marks C (gmF rule marks C marks.length) := by
  match rule, ck with
  | 0, ck =>
    obtain ⟨hn, hin, -⟩ := mark_marks ck h
    exact gm_core (by omega) hn hin (fun x hc => by simp only [giveL]; rw [if_neg (by rw [hc]; exact Bool.false_ne_true)]) fun j hj => by
      have := hin _ (List.getElem_mem hj)
      have hm : marks.contains ((marks[j].toNat : Nat) : Int) = true := by rw [Int.toNat_of_nonneg this.1]; simp
      simp only [giveL, gval]; rw [if_pos hm]
  | 1, ck =>
    obtain ⟨hn, hin, -⟩ := mark_marks ck h
    exact gm_core (by omega) hn hin (fun x hc => by simp only [giveL]; rw [if_neg (by rw [hc]; exact Bool.false_ne_true)]) fun j hj => by
      have := hin _ (List.getElem_mem hj)
      have hm : marks.contains ((marks[j].toNat : Nat) : Int) = true := by rw [Int.toNat_of_nonneg this.1]; simp
      simp only [giveL, gval]; rw [if_pos hm]
  | 2, ck =>
    obtain ⟨hl, -⟩ := score_marks ck h
    have hk : ∀ j, gkey 2 marks j = j := fun j => by simp [gkey]
    have hh : ∀ j, j < marks.length → gmF 2 marks C marks.length (.int .i64 (j : Int)) = some (.int .i64 (marks.getD j 0)) := fun j hj => by
      have := gmF_hit (rule := 2) (marks := marks) (C := C) _ j hj fun i hi e => by rw [hk, hk] at e; omega
      rwa [hk] at this
    constructor
    · intro x c hx
      by_cases he : ∃ j, j < marks.length ∧ gkey 2 marks j = x
      · obtain ⟨j, hj, rfl⟩ := he
        rw [hk] at hx ⊢
        rw [hh j hj] at hx
        injection hx with hx; injection hx with _ hx
        refine ⟨by omega, by omega, ?_⟩
        rw [← hx, Int.toNat_natCast]; rfl
      · rw [gmF_miss _ fun i h1 h2 => he ⟨i, h1, h2⟩] at hx
        cases hx
    · intro x hx hnone
      rw [hh x (by omega)] at hnone
      cases hnone
  | r + 3, ck =>
    have ck3 : kind = kindL 3 := ck
    obtain ⟨hn, hin, -⟩ := rank_marks ck3 h
    exact gm_core (by omega) hn hin (fun x hc => by simp only [giveL]; rw [if_neg (by rw [hc]; exact Bool.false_ne_true)]) fun j hj => by
      have := hin _ (List.getElem_mem hj)
      have e : ((marks[j].toNat : Nat) : Int) = marks[j] := Int.toNat_of_nonneg this.1
      have hm : marks.contains ((marks[j].toNat : Nat) : Int) = true := by rw [e]; simp
      simp only [giveL, gval]
      rw [if_pos hm, e, hn.idxOf_getElem j hj]
/-- The map as a result, of the call's own. -/
def GivesMap (rule : Nat) (marks : List Int) (C : Nat) (w : World) (e : Ending) (w' : World) : Prop :=
  ∃ b n, e = .returned (.map (some b)) ∧ w.heap.size ≤ b ∧ n ≤ 1000000 ∧ MapF w' Tryz.prog 3 3 b n (gmF rule marks C marks.length) ∧ Below w.heap.size w w'
theorem keyInt {x : Int} (h : (Lit.int .i64 x).wf = true) : keyOf Tryz.prog 3 (.int .i64 x) = some (.int .i64 x) := keyOf_int_mk Tryz.underlying3 h
set_option maxHeartbeats 1000000 in
theorem sinMarked (rule : Nat) (hr : rule < 2) (S : Nat → Prop) (v : Value) (marks : List Int) (C : Nat) (w : World) (h : RInts S w v marks) (hl : marks.length ≤ 1000000) :
    Calls Tryz.prog 45 #[v, .int .i64 C] w (GivesMap rule marks C w) := by
  have hval : ∀ k, gval rule marks C k = 1 := fun k => by rcases rule with _ | _ | r <;> first | rfl | omega
  have hkey : ∀ k (hk : k < marks.length), gkey rule marks k = marks[k] := fun k hk => by rw [gkey, if_neg (by omega), getD_here hk]
  have hstep : ∀ k (hk : k < marks.length), gmF rule marks C (k + 1) = upd (gmF rule marks C k) (.int .i64 marks[k]) (.int .i64 1) := fun k hk => by rw [gmF, hkey k hk, hval]
  have hm0 := MapF.made w Tryz.prog 3 3
  have hb0 := below_new w (.map #[] 0)
  have hmm := @run_makeMap Tryz.prog
  have hR := fun W (hW : Below w.heap.size w W) => h.same (.of_below hW)
  obtain ⟨a, cap, rfl, h1, h2⟩ := RSl.shape h
  obtain ⟨m, hm⟩ : ∃ m, marks.length = m := ⟨_, rfl⟩
  have hfin : ∀ W, MapF W Tryz.prog 3 3 w.heap.size m (gmF rule marks C m) → Below w.heap.size w W → GivesMap rule marks C w (.returned (.map (some w.heap.size))) W := fun W hW hb => ⟨_, m, rfl, Nat.le_refl _, by omega, by rw [hm]; exact hW, hb⟩
  rw [hm] at hR hl ⊢
  have HR := Lib.hid hR; have Hstep := Lib.hid hstep; have Hm := Lib.hid hm; have Hm0 := Lib.hid hm0; have HF := Lib.hid hfin
  clear hR hstep hm h h1 h2 hval hkey hm0 hfin
  go_enter Tryz.func45, Tryz.ntmps45
  go_wp2
  clear hmm
  go_loopw [7, 11] (fun _ i wr => ∃ k : Nat, k ≤ m ∧ i = .int .i64 k ∧ Hid (MapF wr Tryz.prog 3 3 w.heap.size k (gmF rule marks C k)) ∧ Below w.heap.size w wr) (fun _ i _ => m - (intOf i).toNat)
  case atStart => exact ⟨0, Nat.zero_le _, rfl, Hm0, hb0⟩
  case round =>
    clear Hm0 hb0
    obtain ⟨k, hk, rfl, hM, hb⟩ := hrel
    by_cases hlt : k < m
    · have hlk : k < marks.length := by rw [Hm.out]; exact hlt
      obtain ⟨b, off, c, rfl, -, hbl, hcl, hd⟩ := RSl.at1 (HR.out wr hb) k hlk
      obtain ⟨rfl, hwf⟩ := hd.open
      have hst := Hstep.out k hlk
      obtain ⟨x, hx⟩ : ∃ x, marks[k] = x := ⟨_, rfl⟩
      rw [hx] at hcl hwf hst
      have Hst := Lib.hid hst; have Hkey := Lib.hid (keyInt hwf)
      clear hst hx hwf
      go_wp2_with (at_mapUpdate; refine wpList_mapF _ rfl _ _ _ 114 rfl 3 3 (int_keyed Tryz.underlying3) Tryz.underlying114 w.heap.size k _ rfl hM.out (by unfold maxLen; omega) _ _ (.int .i64 x) rfl rfl Hkey.out trivial (.int .i64 1) (plainElem_int Tryz.underlying3 (WalkArith.wf_i64 (by omega))) ?_; intro w1 hm1 hg1; have Hm1 := Lib.hid hm1; have hb1 := hb.grown hg1 hb.size (fun j hj => by cases hj; exact Nat.le_refl _); clear hm1)
      exact ⟨⟨k + 1, by omega, by go_num, Lib.hid (by rw [Hst.out]; exact Hm1.out), hb1⟩, by simp [intOf]; omega⟩
    · obtain rfl : k = m := by omega
      go_wp2
      go_ret
      exact HF.out _ hM.out hb
end Go.Proofs.YtogngcbflhdadaaGreat

/- The contracts of scored and ranked, alone and never. -/
namespace Go.Proofs.YtogngcbflhdadaaGreat
open Go Go.RowKit Go.Shelf Go.Maps

set_option maxHeartbeats 1000000 in
theorem sinScored (S : Nat → Prop) (v : Value) (marks : List Int) (C : Nat) (w : World) (h : RInts S w v marks) (hl : marks.length ≤ 1000000) :
    Calls Tryz.prog 51 #[v, .int .i64 C] w (GivesMap 2 marks C w) := by
  have hstep : ∀ k (hk : k < marks.length), gmF 2 marks C (k + 1) = upd (gmF 2 marks C k) (.int .i64 k) (.int .i64 marks[k]) := fun k hk => by rw [gmF, gkey, if_pos rfl, gval, getD_here hk]
  have hm0 := MapF.made w Tryz.prog 3 3
  have hb0 := below_new w (.map #[] 0)
  have hmm := @run_makeMap Tryz.prog
  have hR := fun W (hW : Below w.heap.size w W) => h.same (.of_below hW)
  obtain ⟨a, cap, rfl, h1, h2⟩ := RSl.shape h
  obtain ⟨m, hm⟩ : ∃ m, marks.length = m := ⟨_, rfl⟩
  have hfin : ∀ W, MapF W Tryz.prog 3 3 w.heap.size m (gmF 2 marks C m) → Below w.heap.size w W → GivesMap 2 marks C w (.returned (.map (some w.heap.size))) W := fun W hW hb => ⟨_, m, rfl, Nat.le_refl _, by omega, by rw [hm]; exact hW, hb⟩
  rw [hm] at hR hl ⊢
  have HR := Lib.hid hR; have Hstep := Lib.hid hstep; have Hm := Lib.hid hm; have Hm0 := Lib.hid hm0; have HF := Lib.hid hfin
  clear hR hstep hm h h1 h2 hm0 hfin
  go_enter Tryz.func51, Tryz.ntmps51
  go_wp2
  clear hmm
  go_loopw [6, 7, 11] (fun _ _ i wr => ∃ k : Nat, k ≤ m ∧ i = .int .i64 k ∧ Hid (MapF wr Tryz.prog 3 3 w.heap.size k (gmF 2 marks C k)) ∧ Below w.heap.size w wr) (fun _ _ i _ => m - (intOf i).toNat)
  case atStart => exact ⟨0, Nat.zero_le _, rfl, Hm0, hb0⟩
  case round =>
    clear Hm0 hb0
    obtain ⟨k, hk, rfl, hM, hb⟩ := hrel
    by_cases hlt : k < m
    · have hlk : k < marks.length := by rw [Hm.out]; exact hlt
      obtain ⟨b, off, c, rfl, -, hbl, hcl, hd⟩ := RSl.at1 (HR.out wr hb) k hlk
      obtain ⟨rfl, hwf⟩ := hd.open
      have hst := Hstep.out k hlk
      obtain ⟨x, hx⟩ : ∃ x, marks[k] = x := ⟨_, rfl⟩
      rw [hx] at hcl hwf hst
      have Hst := Lib.hid hst; have Hkey := Lib.hid (keyInt (x := (k : Int)) (WalkArith.wf_i64 (by omega))); have Hwf := Lib.hid hwf
      clear hst hx hwf
      go_wp2_with (at_mapUpdate; refine wpList_mapF _ rfl _ _ _ 114 rfl 3 3 (int_keyed Tryz.underlying3) Tryz.underlying114 w.heap.size k _ rfl hM.out (by unfold maxLen; omega) _ _ (.int .i64 k) rfl rfl Hkey.out trivial (.int .i64 x) (plainElem_int Tryz.underlying3 Hwf.out) ?_; intro w1 hm1 hg1; have Hm1 := Lib.hid hm1; have hb1 := hb.grown hg1 hb.size (fun j hj => by cases hj; exact Nat.le_refl _); clear hm1)
      exact ⟨⟨k + 1, by omega, by go_num, Lib.hid (by rw [Hst.out]; exact Hm1.out), hb1⟩, by simp [intOf]; omega⟩
    · obtain rfl : k = m := by omega
      go_wp2
      go_ret
      exact HF.out _ hM.out hb
set_option maxHeartbeats 1000000 in
theorem sinRanked (S : Nat → Prop) (v : Value) (marks : List Int) (C : Nat) (w : World) (h : RInts S w v marks) (hl : marks.length ≤ 1000000) (hC : C ≤ 1000) :
    Calls Tryz.prog 52 #[v, .int .i64 C] w (GivesMap 3 marks C w) := by
  have hkey : ∀ k (hk : k < marks.length), gkey 3 marks k = marks[k] := fun k hk => by rw [gkey, if_neg (by omega), getD_here hk]
  have hstep : ∀ k (hk : k < marks.length), gmF 3 marks C (k + 1) = upd (gmF 3 marks C k) (.int .i64 marks[k]) (.int .i64 ((C : Int) - 1 - k)) := fun k hk => by rw [gmF, hkey k hk]; rfl
  have hm0 := MapF.made w Tryz.prog 3 3
  have hb0 := below_new w (.map #[] 0)
  have hmm := @run_makeMap Tryz.prog
  have hR := fun W (hW : Below w.heap.size w W) => h.same (.of_below hW)
  obtain ⟨a, cap, rfl, h1, h2⟩ := RSl.shape h
  obtain ⟨m, hm⟩ : ∃ m, marks.length = m := ⟨_, rfl⟩
  have hfin : ∀ W, MapF W Tryz.prog 3 3 w.heap.size m (gmF 3 marks C m) → Below w.heap.size w W → GivesMap 3 marks C w (.returned (.map (some w.heap.size))) W := fun W hW hb => ⟨_, m, rfl, Nat.le_refl _, by omega, by rw [hm]; exact hW, hb⟩
  rw [hm] at hR hl ⊢
  have HR := Lib.hid hR; have Hstep := Lib.hid hstep; have Hm := Lib.hid hm; have Hm0 := Lib.hid hm0; have HF := Lib.hid hfin
  clear hR hstep hm h h1 h2 hkey hm0 hfin
  go_enter Tryz.func52, Tryz.ntmps52
  go_wp2
  clear hmm
  go_loopw [6, 7, 11] (fun _ _ i wr => ∃ k : Nat, k ≤ m ∧ i = .int .i64 k ∧ Hid (MapF wr Tryz.prog 3 3 w.heap.size k (gmF 3 marks C k)) ∧ Below w.heap.size w wr) (fun _ _ i _ => m - (intOf i).toNat)
  case atStart => exact ⟨0, Nat.zero_le _, rfl, Hm0, hb0⟩
  case round =>
    clear Hm0 hb0
    obtain ⟨k, hk, rfl, hM, hb⟩ := hrel
    by_cases hlt : k < m
    · have hlk : k < marks.length := by rw [Hm.out]; exact hlt
      obtain ⟨b, off, c, rfl, -, hbl, hcl, hd⟩ := RSl.at1 (HR.out wr hb) k hlk
      obtain ⟨rfl, hwf⟩ := hd.open
      have hst := Hstep.out k hlk
      obtain ⟨x, hx⟩ : ∃ x, marks[k] = x := ⟨_, rfl⟩
      rw [hx] at hcl hwf hst
      have Hst := Lib.hid hst; have Hkey := Lib.hid (keyInt hwf)
      clear hst hx hwf
      go_wp2_with (at_mapUpdate; refine wpList_mapF _ rfl _ _ _ 114 rfl 3 3 (int_keyed Tryz.underlying3) Tryz.underlying114 w.heap.size k _ rfl hM.out (by unfold maxLen; omega) _ _ (.int .i64 x) rfl rfl Hkey.out trivial (.int .i64 ((C : Int) - 1 - k)) (plainElem_int Tryz.underlying3 (WalkArith.wf_i64 (by omega))) ?_; intro w1 hm1 hg1; have Hm1 := Lib.hid hm1; have hb1 := hb.grown hg1 hb.size (fun j hj => by cases hj; exact Nat.le_refl _); clear hm1)
      exact ⟨⟨k + 1, by omega, by go_num, Lib.hid (by rw [Hst.out]; exact Hm1.out), hb1⟩, by simp [intOf]; omega⟩
    · obtain rfl : k = m := by omega
      go_wp2
      go_ret
      exact HF.out _ hM.out hb
theorem sinAlone (S : Nat → Prop) (v : Value) (marks : List Int) (w : World) (h : RInts S w v marks) :
    Calls Tryz.prog 46 #[v] w fun e w' => e = .returned (.bool (lostL 0 marks)) ∧ w' = w := by
  obtain ⟨a, cap, rfl, h1, h2⟩ := RSl.shape h
  have hs : lostL 0 marks = ((marks.length : Int) != 1) := by rw [lostL, Bool.eq_iff_iff]; simp; omega
  rw [hs]
  obtain ⟨m, hm⟩ : ∃ m, marks.length = m := ⟨_, rfl⟩
  rw [hm]
  clear hm hs h h1 h2
  go_enter Tryz.func46, Tryz.ntmps46
  go_wp2
  go_ret
  exact ⟨rfl, rfl⟩
theorem sinNever (rule : Nat) (hr : rule ≠ 0) (v : Value) (marks : List Int) (w : World) : Calls Tryz.prog 50 #[v] w fun e w' => e = .returned (.bool (lostL rule marks)) ∧ w' = w := by
  have hs : lostL rule marks = false := by simp [lostL, hr]
  rw [hs]
  clear hs
  go_enter Tryz.func50, Tryz.ntmps50
  go_wp2
  go_ret
  exact ⟨rfl, rfl⟩
end Go.Proofs.YtogngcbflhdadaaGreat

/- Points summed over a map's entries in whatever order. -/
namespace Go.Proofs.YtogngcbflhdadaaGreat
open Go Go.RowKit Go.Shelf Go.Maps

/-- The points while a ballot's map is ranged over: what is still to come is not yet added. -/
def mapSt (C : Nat) (h give : Nat → Int) (m : Int) (left : Lit → Bool) : List Int := fl C fun z => h z + if left (.int .i64 (z : Int)) then 0 else give z * m
theorem mapSt_get {C : Nat} {h give : Nat → Int} {m : Int} {left : Lit → Bool} {x : Nat} (hl : left (.int .i64 (x : Int)) = true) (hx : x < (mapSt C h give m left).length) : (mapSt C h give m left)[x] = h x := by
  unfold mapSt at hx ⊢
  rw [fl_get, if_pos hl]; omega
theorem mapSt_start {C : Nat} {h give : Nat → Int} {m : Int} {left : Lit → Bool} (hl : ∀ z : Nat, z < C → left (.int .i64 (z : Int)) = false → give z = 0) : mapSt C h give m left = fl C h := by
  apply fl_congr
  intro z hz
  cases e : left (.int .i64 (z : Int)) with
  | true => simp
  | false => rw [if_neg (by simp), hl z hz e, Int.zero_mul]; omega
theorem mapSt_end {C : Nat} {h give : Nat → Int} {m : Int} {left : Lit → Bool} (hl : ∀ kl, left kl = false) : mapSt C h give m left = fl C fun z => h z + give z * m := by
  apply fl_congr
  intro z _
  rw [if_neg (by rw [hl]; exact Bool.false_ne_true)]
theorem mapSt_step {C : Nat} {h give : Nat → Int} {m : Int} {left : Lit → Bool} {x : Nat} : mapSt C h give m (fun z => left z && !z.sameKey (.int .i64 (x : Int))) = (mapSt C h give m left).set x (h x + give x * m) := by
  unfold mapSt
  rw [fl_set]
  apply fl_congr
  intro z _
  by_cases e : z = x
  · subst e
    have e : Lit.sameKey (.int .i64 (z : Int)) (.int .i64 (z : Int)) = true := WideAt.sameKey_self (a := .int .i64 (z : Int)) trivial
    rw [if_pos rfl]; simp [e]
  · have e2 : Lit.sameKey (.int .i64 (z : Int)) (.int .i64 (x : Int)) = false := sameKey_ne fun h => e (by injection h with _ h; omega)
    rw [if_neg e]; simp [e2]
theorem grownBy_setC (w : World) (p : Addr) (v : Value) : w.grownBy (w.setCell p v) (some p.block) :=
  ⟨(Below.setCell (Below.refl 0 w) (Nat.zero_le _) v).os, (Below.setCell (Below.refl 0 w) (Nat.zero_le _) v).tape, (Below.setCell (Below.refl 0 w) (Nat.zero_le _) v).output, by rw [size_setCell']; exact Nat.le_refl _, fun k _ hne => Below.heap_setCell _ _ _ _ (fun e => hne (by rw [e]))⟩
theorem ranges_drew {H : Type} {w : World} {P : Program} {k : TypeId} {R : Value → Option (DataW H × List MemPlace)} {b r n : Nat} {D : DataW H} {left : Lit → Bool} {cnt : Nat} (h : w.ranges P k R b r n D left cnt) : w.drew.ranges P k R b r n D left cnt := h
theorem give_bound {rule : Nat} {kind : Int} {marks : List Int} {C x : Nat} (ck : kind = kindL rule) (h : fineB ⟨kind, marks⟩ (C : Int) = true) (hC : C ≤ 10) : 0 ≤ giveL rule marks C x ∧ giveL rule marks C x ≤ 10 := by
  match rule, ck with
  | 0, _ => exact ⟨give_bound01.1, Int.le_trans give_bound01.2.1 (by omega)⟩
  | 1, _ => exact ⟨give_bound01.2.2.1, Int.le_trans give_bound01.2.2.2 (by omega)⟩
  | 2, ck => exact (score_marks ck h).2 x
  | r + 3, ck => exact give3_bound (show kind = kindL 3 from ck) h hC
theorem fine_len {rule : Nat} {kind : Int} {marks : List Int} {C : Nat} (ck : kind = kindL rule) (h : fineB ⟨kind, marks⟩ (C : Int) = true) : marks.length ≤ C := by
  match rule, ck with
  | 0, ck => exact (mark_marks ck h).2.2
  | 1, ck => exact (mark_marks ck h).2.2
  | 2, ck => exact Nat.le_of_eq (score_marks ck h).1
  | r + 3, ck => exact (rank_marks (show kind = kindL 3 from ck) h).2.2
theorem entry_is {f : Lit → Option Lit} {D : DataW Unit} {x c : Int} (h : ∀ z, D.atKey (.int .i64 x) z = match f (.int .i64 x) with | some d => .lit d | none => z) (hat : ∀ zd, D.atKey (.int .i64 x) zd = .lit (.int .i64 c)) : f (.int .i64 x) = some (.int .i64 c) := by
  have h1 := (h (.lit (.bool true))).symm.trans (hat _)
  cases hf : f (.int .i64 x) with
  | none => rw [hf] at h1; cases h1
  | some d => rw [hf] at h1; injection h1 with h1; rw [h1]
set_option maxHeartbeats 1000000 in
set_option maxRecDepth 100000 in
theorem sinCount_bad (rule gf lf : Nat) (S T : Nat → Prop) (u v : Value) (p : Prof) (seats : Int) (lot : List Int) (w : World) (h : VProf S w u p) (hv : RInts T w v lot) (hlo : lot.length ≤ 1000000) (h0 : singleI rule p seats lot ≠ 0) :
    Calls Tryz.prog 47 #[.agg #[.int .u8 (kindL rule), .func (.func gf) #[] #[], .func (.func lf) #[] #[]], u, .int .i64 seats, v] w (GivesSI rule p seats lot w) := by
  have h1 := h
  obtain ⟨a, cap, rfl, -, -, -⟩ := h
  obtain ⟨a2, cap2, rfl, -, -⟩ := RSl.shape hv
  obtain ⟨cands, kind, rows⟩ := p
  simp only at *
  obtain ⟨n, hn⟩ : ∃ n, rows.length = n := ⟨_, rfl⟩
  obtain ⟨nl, hnl⟩ : ∃ n, lot.length = n := ⟨_, rfl⟩
  obtain ⟨K, hK⟩ : ∃ K, kindL rule = K := ⟨_, rfl⟩
  rw [hn] at h1 ⊢
  rw [hnl] at hv ⊢
  obtain ⟨W3, hW3⟩ : ∃ W3, W3 = ((w.alloc (.cells #[.int .u8 K, .func (.func gf) #[] #[], .func (.func lf) #[] #[]] 84)).alloc (.cells #[.int .i64 cands, .int .u8 kind, .slice a n cap] 24)).alloc (.cells #[.slice none 0 0, .slice none 0 0, .slice none 0 0] 32) := ⟨_, rfl⟩
  have hb0 : Below w.heap.size w W3 := by rw [hW3]; exact (((Below.refl _ _).alloc (Nat.le_refl _) _).alloc (by simp) _).alloc (by simp; omega) _
  have hbx : W3.heap[w.heap.size + 2]? = some (.cells #[.slice none 0 0, .slice none 0 0, .slice none 0 0] 32 (0, 0)) := by
    have := box_new ((w.alloc (.cells #[.int .u8 K, .func (.func gf) #[] #[], .func (.func lf) #[] #[]] 84)).alloc (.cells #[.int .i64 cands, .int .u8 kind, .slice a n cap] 24)) (.cells #[.slice none 0 0, .slice none 0 0, .slice none 0 0] 32)
    rw [hW3]
    rwa [World.size_alloc, World.size_alloc] at this
  have hz3 : W3.heap.size = w.heap.size + 3 := by rw [hW3]; simp
  have hM := choCheck S T _ _ ⟨cands, kind, rows⟩ K seats cands lot W3 (h1.same (.of_below hb0)) (hv.same (.of_below hb0)) hlo
  have hS : singleI rule ⟨cands, kind, rows⟩ seats lot = countI ⟨cands, kind, rows⟩ K seats cands lot := by rw [← hK]; rfl
  rw [hK]
  obtain ⟨I, hI⟩ : ∃ I, singleI rule ⟨cands, kind, rows⟩ seats lot = I := ⟨_, rfl⟩
  rw [← hS, hI] at hM
  rw [hI] at h0
  have hV : singleV rule ⟨cands, kind, rows⟩ seats lot = noO := by rw [singleV, hI, if_neg h0]
  have hG : ∀ w', Below w.heap.size w w' → GivesSI rule ⟨cands, kind, rows⟩ seats lot w (.returned (.tuple #[.agg #[.slice none 0 0, .slice none 0 0, .slice none 0 0], .int .i64 I])) w' := fun w' hb => ⟨_, by rw [hI], by rw [hV]; exact ⟨_, _, _, rfl, RSl.nil, RSl.nil, RSl.nil⟩, hb⟩
  have hq : (I != 0) = true := by simpa using h0
  rw [hW3] at hM
  have HM := Lib.hid hM; have HG := Lib.hid hG; have Hbx := Lib.hid hbx; have Hz3 := Lib.hid hz3; have HW3 := Lib.hid hW3; have Hb0 := Lib.hid hb0
  clear hM hG hV hS hI h0 h1 hv hn hnl hlo hK hbx hz3 hW3 hb0
  go_enter Tryz.func47, Tryz.ntmps47
  go_wp2_with (go_at_call 79; refine HM.out.mono ?_; rintro e w1 ⟨rfl, hb1⟩; rw [← HW3.out] at hb1; have hq1 := Hb0.out.trans (hb1.mono (by rw [Hz3.out]; omega)); obtain ⟨g1, gc, gf⟩ := own_box hb1 (by rw [Hz3.out]; omega) Hbx.out; have gc0 := gc 0; have gc1 := gc 1; have gc2 := gc 2; have gf0 := gf 0; have gf1 := gf 1; have gf2 := gf 2; have hlt1 : w.heap.size + 2 < w1.heap.size := size_of_box g1; have Hq1 := Lib.hid hq1; clear hb1 hq1 g1)
  refine bodyPost_ret (v := .tuple #[.agg #[.slice none 0 0, .slice none 0 0, .slice none 0 0], .int .i64 I]) (by simp [results, Tryz.results47, go_sem, gc]) rfl (HG.out _ ?_)
  exact ((Hq1.out.setCell (p := ⟨w.heap.size + 2, 0, none⟩) (by simp) _).setCell (p := ⟨w.heap.size + 2, 1, none⟩) (by simp) _).setCell (p := ⟨w.heap.size + 2, 2, none⟩) (by simp) _
end Go.Proofs.YtogngcbflhdadaaGreat

/- The contract of the program's count by a rule of one round. -/
namespace Go.Proofs.YtogngcbflhdadaaGreat
open Go Go.RowKit Go.Shelf Go.Maps

set_option maxHeartbeats 4000000 in
set_option maxRecDepth 100000 in
theorem sinCount_ok (rule gf lf : Nat) (S T : Nat → Prop) (u v : Value) (p : Prof) (seats : Int) (lot : List Int) (w : World) (h : VProf S w u p) (hv : RInts T w v lot) (h0 : singleI rule p seats lot = 0)
    (eg : ∀ args w, (callFunc gf args).run Tryz.prog w = .ok (.enter gf args) w) (el : ∀ args w, (callFunc lf args).run Tryz.prog w = .ok (.enter lf args) w)
    (hgf : ∀ (W : World) (x : Value) (marks : List Int) (C : Nat), RInts Any W x marks → marks.length ≤ 1000000 → C ≤ 1000 → Calls Tryz.prog gf #[x, .int .i64 C] W (GivesMap rule marks C W))
    (hlf : ∀ (W : World) (x : Value) (marks : List Int), RInts Any W x marks → Calls Tryz.prog lf #[x] W fun e w' => e = .returned (.bool (lostL rule marks)) ∧ w' = W) :
    Calls Tryz.prog 47 #[.agg #[.int .u8 (kindL rule), .func (.func gf) #[] #[], .func (.func lf) #[] #[]], u, .int .i64 seats, v] w (GivesSI rule p seats lot w) := by
  have hC := counted h0
  have h1 := h
  obtain ⟨a, cap, rfl, -, -, hR⟩ := h
  obtain ⟨a2, cap2, rfl, -, -⟩ := RSl.shape hv
  obtain ⟨cands, kind, rows⟩ := p
  obtain ⟨ck, ⟨cc1, cc2⟩, ⟨cs1, cs2⟩, cl, cm, cf, cr, csum⟩ := hC
  simp only at *
  obtain ⟨n, hn⟩ : ∃ n, rows.length = n := ⟨_, rfl⟩
  obtain ⟨nl, hnl⟩ : ∃ n, lot.length = n := ⟨_, rfl⟩
  obtain ⟨C, hCn⟩ : ∃ C : Nat, cands = (C : Int) := ⟨cands.toNat, by omega⟩
  obtain ⟨sn, hsn⟩ : ∃ s : Nat, seats = (s : Int) := ⟨seats.toNat, by omega⟩
  obtain ⟨K, hK⟩ : ∃ K, kindL rule = K := ⟨_, rfl⟩
  subst hCn hsn
  rw [Int.toNat_natCast] at cl
  have hlo : lot.length ≤ 1000000 := by rw [cl.1]; omega
  rw [hn] at h1 hR ⊢
  rw [hnl] at hv ⊢
  obtain ⟨W3, hW3⟩ : ∃ W3, W3 = ((w.alloc (.cells #[.int .u8 K, .func (.func gf) #[] #[], .func (.func lf) #[] #[]] 84)).alloc (.cells #[.int .i64 (C : Int), .int .u8 kind, .slice a n cap] 24)).alloc (.cells #[.slice none 0 0, .slice none 0 0, .slice none 0 0] 32) := ⟨_, rfl⟩
  have hb0 : Below w.heap.size w W3 := by rw [hW3]; exact (((Below.refl _ _).alloc (Nat.le_refl _) _).alloc (by simp) _).alloc (by simp; omega) _
  have hbr : W3.heap[w.heap.size]? = some (.cells #[.int .u8 K, .func (.func gf) #[] #[], .func (.func lf) #[] #[]] 84 (0, 0)) := by rw [hW3]; exact box_old _ (box_old _ (box_new w _))
  have hbp : W3.heap[w.heap.size + 1]? = some (.cells #[.int .i64 (C : Int), .int .u8 kind, .slice a n cap] 24 (0, 0)) := by
    have := box_new (w.alloc (.cells #[.int .u8 K, .func (.func gf) #[] #[], .func (.func lf) #[] #[]] 84)) (.cells #[.int .i64 (C : Int), .int .u8 kind, .slice a n cap] 24)
    rw [World.size_alloc] at this
    rw [hW3]; exact box_old _ this
  have hbx : W3.heap[w.heap.size + 2]? = some (.cells #[.slice none 0 0, .slice none 0 0, .slice none 0 0] 32 (0, 0)) := by
    have := box_new ((w.alloc (.cells #[.int .u8 K, .func (.func gf) #[] #[], .func (.func lf) #[] #[]] 84)).alloc (.cells #[.int .i64 (C : Int), .int .u8 kind, .slice a n cap] 24)) (.cells #[.slice none 0 0, .slice none 0 0, .slice none 0 0] 32)
    rw [hW3]
    rwa [World.size_alloc, World.size_alloc] at this
  have hz3 : W3.heap.size = w.heap.size + 3 := by rw [hW3]; simp
  have hM := choCheck S T _ _ ⟨(C : Int), kind, rows⟩ K sn C lot W3 (h1.same (.of_below hb0)) (hv.same (.of_below hb0)) hlo
  have hS : singleI rule ⟨(C : Int), kind, rows⟩ sn lot = countI ⟨(C : Int), kind, rows⟩ K sn C lot := by rw [← hK]; rfl
  rw [← hS, h0] at hM
  have hV : singleV rule ⟨(C : Int), kind, rows⟩ sn lot = oneO (fl C (hadF rule rows C)) (lostS rule rows) sn lot := by rw [singleV, h0, if_pos rfl]; simp only [Int.toNat_natCast, hadL_fl]
  have hH := fun W (hW : Below w.heap.size w W) => hR.same (.of_below hW)
  have hVv := fun W (hW : Below w.heap.size w W) => hv.same (.of_below hW)
  have hmk := run_make_row' (P := Tryz.prog) 25 3 (.int .i64 0) 8 Tryz.underlying25 Tryz.infoInt rfl .i64 .i64 C (by omega) (by omega)
  have hgb : ∀ k x, ∀ r ∈ rows.take k, 0 ≤ r.many ∧ 0 ≤ giveL rule r.marks C x ∧ giveL rule r.marks C x ≤ 10 := fun k x r hr => by
    have h1 := cm r (List.mem_of_mem_take hr)
    have h2 := give_bound (x := x) ck (cf r (List.mem_of_mem_take hr)) (by omega)
    exact ⟨by omega, h2.1, h2.2⟩
  have hbound : ∀ k x, 0 ≤ hadF rule (rows.take k) C x ∧ hadF rule (rows.take k) C x ≤ 10000000 := fun k x => by
    have h1 := hadF_bound (rule := rule) (rows := rows.take k) (c := C) (x := x) (m := 10) (by omega) (hgb k x)
    have h2 := (sumR_takeLe (l := rows) (fun r hr => by have := cm r hr; omega) k).2
    omega
  have hlb : ∀ k, 0 ≤ lostS rule (rows.take k) ∧ lostS rule (rows.take k) ≤ 1000000 := fun k => by
    have h1 := lostS_bound (rule := rule) (rows := rows.take k) (fun r hr => by have := cm r (List.mem_of_mem_take hr); omega)
    have h2 := (sumR_takeLe (l := rows) (fun r hr => by have := cm r hr; omega) k).2
    omega
  have hOf := fun (W : World) (hW : Below w.heap.size w W) => choOf T _ lot W (hVv W hW) hlo
  have hO := fun (W : World) (g : Nat) (vl had : Value) (lost : Nat) (hg : W.heap[g]? = some (.cells #[.slice none 0 0, .slice none 0 0, .slice none 0 0, vl] 147 (0, 0))) (hd : RInts (fun b => b < g) W had (fl C (hadF rule rows C))) (U : Nat → Prop) (hU : RInts U W vl lot) (hUg : ∀ b, U b → b ≠ g) (hl : (lost : Int) = lostS rule rows) => (choOne (fun b => b < g) U had (.slice none 0 0) (.slice none 0 0) vl (fl C (hadF rule rows C)) lot lost sn g W hg hd hU (fun b hb => by omega) hUg (by rw [fl_length]; exact cl) (by rw [fl_length]; omega) (by rw [fl_length]; omega)
    (fun x hx => by
      obtain ⟨i, hi, rfl⟩ := List.getElem_of_mem hx
      rw [fl_get]
      have := hbound rows.length i
      rw [List.take_length] at this
      omega)
    (by have := hlb rows.length; rw [List.take_length] at this; omega)).mono fun e w' ⟨vo, k1, k2, k3⟩ => (show ∃ b1 m1 c1 b2 m2 c2 b3 m3 c3, e = Ending.returned (.agg #[.slice b1 m1 c1, .slice b2 m2 c2, .slice b3 m3 c3]) ∧ VOutc (From W.heap.size) w' (.agg #[.slice b1 m1 c1, .slice b2 m2 c2, .slice b3 m3 c3]) (singleV rule ⟨(C : Int), kind, rows⟩ sn lot) ∧ Below g W w' from by
      rw [hl, ← hV] at k2
      obtain ⟨x1, x2, x3, rfl, q1, q2, q3⟩ := k2
      obtain ⟨b1, m1, c1, rfl⟩ := RSl.slice q1
      obtain ⟨b2, m2, c2, rfl⟩ := RSl.slice q2
      obtain ⟨b3, m3, c3, rfl⟩ := RSl.slice q3
      exact ⟨_, _, _, _, _, _, _, _, _, k1, ⟨_, _, _, rfl, q1, q2, q3⟩, k3⟩)
  have hG : ∀ (W w3 : World) (x : Value) (w' : World), VOutc (From W.heap.size) w3 x (singleV rule ⟨(C : Int), kind, rows⟩ sn lot) → w.heap.size + 2 < W.heap.size → Same (fun b => b ≠ w.heap.size + 2) w3 w' → Below w.heap.size w w' → GivesSI rule ⟨(C : Int), kind, rows⟩ sn lot w (.returned (.tuple #[x, .int .i64 0])) w' := fun W w3 x w' k1 k2 k3 k4 =>
    ⟨x, by rw [h0], VOutc.mono (fun b hb => Nat.le_trans (by omega) hb) (k1.same (k3.mono fun b hb e => by have : W.heap.size ≤ b := hb; omega)), k4⟩
  have hn64 : n ≤ 64 := by rw [← hn]; exact cr
  have hgm : ∀ i (hi : i < rows.length), GiveM rule rows[i].marks C (gmF rule rows[i].marks C rows[i].marks.length) := fun i hi => gm_ok ck (cf _ (List.getElem_mem hi))
  have hgv : ∀ i (hi : i < rows.length) (x : Nat), 0 ≤ giveL rule rows[i].marks C x := fun i hi x => (give_bound (x := x) ck (cf _ (List.getElem_mem hi)) (by omega)).1
  have hml : ∀ i (hi : i < rows.length), rows[i].marks.length ≤ 1000000 := fun i hi => Nat.le_trans (fine_len ck (cf _ (List.getElem_mem hi))) (by omega)
  rw [hW3] at hM
  rw [hK]
  have HM := Lib.hid hM; have HG := Lib.hid hG; have HO := Lib.hid hO; have HOf := Lib.hid hOf; have HH := Lib.hid hH; have Hn := Lib.hid hn; have Hcm := Lib.hid cm; have Hbx := Lib.hid hbx; have Hbp := Lib.hid hbp; have Hbr := Lib.hid hbr; have Hgm := Lib.hid hgm; have Hgv := Lib.hid hgv; have Hml := Lib.hid hml; have Hgf := Lib.hid hgf; have Hlf := Lib.hid hlf; have Hbound := Lib.hid hbound; have Hlb := Lib.hid hlb; have HW3 := Lib.hid hW3; have Hz3 := Lib.hid hz3; have Hb0 := Lib.hid hb0
  clear hM hG hO hOf hH hV hVv hS h0 h1 hv hn hnl hR cl cm cf csum cs1 cs2 hbx hbp hbr cr ck hgm hml hgf hlf hbound hlb hgb hgv hW3 hz3 hb0 hlo hK
  go_enter Tryz.func47, Tryz.ntmps47
  go_wp2_with (go_at_call 79; refine HM.out.mono ?_; rintro e w1 ⟨rfl, hb1⟩; rw [← HW3.out] at hb1; have hq1 := Hb0.out.trans (hb1.mono (by rw [Hz3.out]; omega)); obtain ⟨g1, -, -⟩ := own_box hb1 (by rw [Hz3.out]; omega) Hbx.out; obtain ⟨p1, pc, -⟩ := own_box hb1 (by rw [Hz3.out]; omega) Hbp.out; obtain ⟨r1, -, -⟩ := own_box hb1 (by rw [Hz3.out]; omega) Hbr.out; have pc0 := pc 0; have pc2 := pc 2; have hlt1 : w.heap.size + 2 < w1.heap.size := size_of_box g1; have hlt2 : w.heap.size + 1 < w1.heap.size := (by omega); have G1 := Lib.hid g1; have P1 := Lib.hid p1; have R1 := Lib.hid r1; clear hb1 g1 p1 r1 pc)
  have hA0 := Arr.madeN (k := .i64) w1 C 3
  have hz1 := hq1.size
  clear pc0 pc2
  have HOf2 := HOf
  clear hmk HM HOf
  go_loopw [12, 14, 15, 16, 35] (fun ls _ _ _ ii wr => ∃ (i : Nat) (lost : Int), i ≤ n ∧ ii = .int .i64 i ∧ ls = .int .i64 lost ∧ Hid (lost = lostS rule (rows.take i)) ∧ Hid (Arr .i64 wr w1.heap.size 3 (fl C (hadF rule (rows.take i) C))) ∧ Below w1.heap.size w1 wr) (fun _ _ _ _ ii _ => n - (intOf ii).toNat)
  case atStart =>
    refine ⟨0, 0, Nat.zero_le _, rfl, rfl, Lib.hid rfl, Lib.hid ?_, below_new _ _⟩
    have e : fl C (hadF rule (rows.take 0) C) = List.replicate C 0 := (fl_congr fun x _ => by rw [List.take_zero, hadF_nil]).trans (fl_zero C)
    rw [e]; exact hA0
  case round =>
    obtain ⟨i, lost, hi, rfl, rfl, hlost, hA, hb⟩ := hrel
    have hbw : Below w.heap.size w wr := hq1.trans (hb.mono hz1)
    have gp := (hb.block _ (by omega)).trans P1.out
    have gr := (hb.block _ (by omega)).trans R1.out
    have hltA := hA.out.lt
    have hlp : w.heap.size + 1 < wr.heap.size := by omega
    have hlr0 : w.heap.size < wr.heap.size := by omega
    obtain ⟨-, pcr, -⟩ := own_box (Below.refl _ wr) (size_of_box gp) gp
    obtain ⟨-, rcr, -⟩ := own_box (Below.refl _ wr) (size_of_box gr) gr
    have pc0 : wr.cell? ⟨w.heap.size + 1, 0, none⟩ = some (.int .i64 (C : Int)) := pcr 0
    have rc1 : wr.cell? ⟨w.heap.size, 1, none⟩ = some (.func (.func gf) #[] #[]) := rcr 1
    have rc2 : wr.cell? ⟨w.heap.size, 2, none⟩ = some (.func (.func lf) #[] #[]) := rcr 2
    clear pcr rcr
    have Gp := Lib.hid gp; have Gr := Lib.hid gr
    clear gp gr
    by_cases hlt : i < n
    · have hlr : i < rows.length := by rw [Hn.out]; exact hlt
      obtain ⟨b, off, cc, dd, rfl, hS, hbw0, hc, hd, hx⟩ := RSl.at2 (HH.out wr hbw) i hlr
      obtain ⟨ax, capx, rfl, rfl, -, -, hI⟩ := hx.open
      have hmany := Hcm.out _ (List.getElem_mem hlr)
      have hIA : RInts Any wr (.slice ax rows[i].marks.length capx) rows[i].marks := hI.mono fun _ _ => trivial
      have hLf := fun W (hW : Below wr.heap.size wr W) => Hlf.out W _ _ (hIA.same (.of_below hW))
      have hGf := fun W (hW : Below wr.heap.size wr W) => Hgf.out W _ _ C (hIA.same (.of_below hW)) (Hml.out i hlr) (by omega)
      have hls := lostS_take (rule := rule) hlr
      have hlb1 := Hlb.out (i + 1)
      have hlb0 := Hlb.out i
      have hgm := Hgm.out i hlr
      have hgv := Hgv.out i hlr
      have hht := fun x => hadF_take (rule := rule) hlr C x
      obtain ⟨marks, hmk⟩ : ∃ m, rows[i].marks = m := ⟨_, rfl⟩
      obtain ⟨many, hme⟩ : ∃ m, rows[i].many = m := ⟨_, rfl⟩
      rw [hmk] at hc hLf hGf hgm
      simp only [hmk] at hgv
      rw [hme] at hd hmany
      simp only [hmk, hme] at hls hht
      obtain ⟨ml, hml⟩ : ∃ m, marks.length = m := ⟨_, rfl⟩
      rw [hml] at hc hLf hGf
      rw [hls] at hlb1
      clear hx hI hIA hmk hme
      cases hq : lostL rule marks with
      | true =>
        simp only [hq, if_true] at hls hht hlb1 hLf
        have hfe : fl C (hadF rule (rows.take (i + 1)) C) = fl C (hadF rule (rows.take i) C) := fl_congr fun x _ => by rw [hht x]; omega
        rw [← hlost.out] at hlb1 hls
        have s1 : (0 : Int) ≤ lost + many := by omega
        have s2 : lost + many ≤ 1000000 := by omega
        have HLf := Lib.hid hLf; have Hls := Lib.hid hls; have Hfe := Lib.hid hfe
        clear hLf hGf hls hht hlb1 hlb0 hfe hgm hgv hq hml
        go_wp2_with (go_at_fn lf; refine (HLf.out _ (below_new wr (.cells #[.slice ax ml capx, .int .i64 many] 50))).mono ?_; rintro e w2 ⟨rfl, rfl⟩)
        exact ⟨⟨i + 1, lost + many, by omega, by go_num, rfl, Lib.hid Hls.out.symm, Lib.hid (by rw [Hfe.out]; exact hA.out.below (below_new _ _)), hb.alloc hb.size _⟩, by simp [intOf]; omega⟩
      | false =>
        simp only [hq, Bool.false_eq_true, if_false] at hls hht hlb1 hLf
        have hfe : fl C (hadF rule (rows.take (i + 1)) C) = fl C fun z => hadF rule (rows.take i) C z + giveL rule marks C z * many := fl_congr fun x _ => by rw [hht x]
        have hbd := fun x => Hbound.out (i + 1) x
        simp only [hht] at hbd
        have hbd0 := fun x => (Hbound.out i x).1
        obtain ⟨hF, hhF⟩ : ∃ f, hadF rule (rows.take i) C = f := ⟨_, rfl⟩
        obtain ⟨gF, hgF⟩ : ∃ f, giveL rule marks C = f := ⟨_, rfl⟩
        simp only [hhF, hgF] at hfe hbd hbd0 hgv hA
        have hg1 : ∀ x c : Int, gmF rule marks C marks.length (.int .i64 x) = some (.int .i64 c) → 0 ≤ x ∧ x < C ∧ c = gF x.toNat := fun x c h => by rw [← hgF]; exact hgm.1 x c h
        have hg2 : ∀ x : Nat, x < C → gmF rule marks C marks.length (.int .i64 x) = none → gF x = 0 := fun x hx h => by rw [← hgF]; exact hgm.2 x hx h
        have hGf2 := fun W (hW : Below wr.heap.size wr W) => (hGf W hW).mono (R' := fun e w' => ∃ b n, e = .returned (.map (some b)) ∧ W.heap.size ≤ b ∧ MapF w' Tryz.prog 3 3 b n (gmF rule marks C marks.length) ∧ Below W.heap.size W w') fun e w' ⟨b, n, k1, k2, _, k4, k5⟩ => ⟨b, n, k1, k2, k4, k5⟩
        obtain ⟨fM, hfM⟩ : ∃ f, gmF rule marks C marks.length = f := ⟨_, rfl⟩
        rw [hfM] at hg1 hg2 hGf2
        have hls2 : lost = lostS rule (rows.take (i + 1)) := by rw [hls, hlost.out]; omega
        have HLf := Lib.hid hLf; have HGf := Lib.hid hGf2; have Hls := Lib.hid hls2; have Hfe := Lib.hid hfe; have Hbd := Lib.hid hbd; have Hbd0 := Lib.hid hbd0; have Hgv0 := Lib.hid hgv; have Hg1 := Lib.hid hg1; have Hg2 := Lib.hid hg2
        clear hLf hGf hGf2 hls hht hlb1 hlb0 hfe hgm hgv hq hml hbd hbd0 hhF hgF hfM hg1 hg2 hls2 hlost
        go_wp2_with (first
          | (go_at_fn lf; refine (HLf.out _ (below_new wr (.cells #[.slice ax ml capx, .int .i64 many] 50))).mono ?_; rintro e w2 ⟨rfl, rfl⟩)
          | (go_at_fn gf; refine (HGf.out _ (below_new wr (.cells #[.slice ax ml capx, .int .i64 many] 50))).mono ?_; rintro e w5 ⟨bm, nm, rfl, hbm, ⟨D, hown, hD⟩, hb5⟩; have HD := Lib.hid hD; have Hown := Lib.hid hown; clear hD hown)
          | (at_range; refine wpList_range_own _ rfl _ 114 rfl 3 3 (int_keyed Tryz.underlying3) Tryz.underlying114 _ bm nm D rfl Hown.out ?_; intro w6 hrg0 hg0 hs0))
        go_frame
        have hbz := hb5.size
        rw [World.size_alloc] at hbm hb5 hbz
        have hb6 : Below w1.heap.size w1 w6 := (((hb.alloc hb.size _).trans (hb5.mono (by have := hb.size; omega)))).grown hg0 (by have := hb.size; omega) (fun k e => by cases e)
        have hA6 : Arr .i64 w6 w1.heap.size 3 (mapSt C hF gF many (Maps.has D)) := by
          rw [mapSt_start fun z hz hl => Hg2.out z hz (by have := (HD.out (.int .i64 (z : Int))).2; rw [hl] at this; simpa using this.symm)]
          have h1 := (hA.out.below (below_new wr (.cells #[.slice ax ml capx, .int .i64 many] 50)))
          have h2 : Arr .i64 w5 w1.heap.size 3 (fl C hF) := (hb5.block _ (by omega)).trans h1
          exact h2.grown hg0 (by simp)
        have hx6 : w6.heap[wr.heap.size]? = some (.cells #[.slice ax ml capx, .int .i64 many] 50 (0, 0)) := (hg0.block _ (by omega) (by simp)).trans ((hb5.block _ (by omega)).trans (box_new wr _))
        obtain ⟨r0, hr0⟩ : ∃ r, w5.heap.size = r := ⟨_, rfl⟩
        rw [hr0] at hrg0 hs0 hbz
        have Hrg0 := Lib.hid hrg0; have HA6 := Lib.hid hA6; have Hx6 := Lib.hid hx6; have Hb6 := Lib.hid hb6
        clear hrg0 hg0 hA6 hx6 hb6 hA hb5 Hown
        obtain ⟨wo, hwo⟩ : ∃ n, wr.heap.size = n := ⟨_, rfl⟩
        rw [hwo] at hbm hbz Hx6 hltA hlp hlr0
        rw [hr0, hwo]
        have hne1 : r0 ≠ w1.heap.size := by omega
        have hne2 : wo ≠ w1.heap.size := by omega
        have hne3 : bm ≠ w1.heap.size := by omega
        have hne4 : wo ≠ r0 := by omega
        clear hr0 hwo rc1 rc2 pc0 hd hc
        go_loopw [15, 16] (fun _ _ wi => ∃ (left : Lit → Bool) (cnt : Nat), Hid (wi.ranges Tryz.prog 3 (plainElem Tryz.prog 3) bm r0 nm D left cnt) ∧ Hid (Arr .i64 wi w1.heap.size 3 (mapSt C hF gF many left)) ∧ Hid (wi.heap[wo]? = some (.cells #[.slice ax ml capx, .int .i64 many] 50 (0, 0))) ∧ Hid (Below w1.heap.size w1 wi)) (fun _ _ wi => wi.rangeLeft bm r0)
        case atStart => exact ⟨_, _, Hrg0, HA6, Hx6, Hb6⟩
        case round =>
          clear Hrg0 HA6 Hx6 Hb6 hs0
          obtain ⟨left, cnt, hrg, hA, hX, hbi⟩ := hrel
          go_wp2_with (at_next; refine wpList_next_ranges_ii _ rfl _ rfl 3 3 .i64 .i64 (int_keyed Tryz.underlying3) Tryz.underlying3 Tryz.underlying3 bm r0 nm _ _ _ rfl hrg.out ?_ ?_)
          · intro hc0 hl0
            have hAf := hA.out
            rw [mapSt_end hl0, ← Hfe.out] at hAf
            have HAf := Lib.hid hAf
            clear hAf hA
            go_wp2
            exact ⟨⟨i + 1, lost, by omega, by go_num, rfl, Lib.hid Hls.out, HAf, hbi.out⟩, by simp [intOf]; omega⟩
          · intro x c w7 cnt1 hwx hwc hlx hat hrg1 hltc hg7 hs7 hen
            obtain ⟨k1, k2, k3⟩ := Hg1.out x c (entry_is (HD.out _).1 hat)
            obtain ⟨xn, rfl⟩ : ∃ xn : Nat, x = (xn : Int) := ⟨x.toNat, by omega⟩
            rw [Int.toNat_natCast] at k3
            have hA7 : Arr .i64 w7 w1.heap.size 3 (mapSt C hF gF many left) := hA.out.grown hg7 (fun e => by cases e; omega)
            have hAc := hA7.cell (i := xn) (by rw [mapSt, fl_length]; omega)
            rw [mapSt_get hlx] at hAc
            have hAz := hA7.frozen xn
            have hX7 : w7.heap[wo]? = some (.cells #[.slice ax ml capx, .int .i64 many] 50 (0, 0)) := (hg7.block _ (size_of_box hX.out) (fun e => by cases e; omega)).trans hX.out
            obtain ⟨-, xc, -⟩ := own_box (Below.refl _ w7) (size_of_box hX7) hX7
            have xc1 : w7.cell? ⟨wo, 1, none⟩ = some (.int .i64 many) := xc 1
            have hb7 : Below w1.heap.size w1 w7 := hbi.out.grown hg7 hbi.out.size (fun k e => by cases e; omega)
            have hlt7 : wo < w7.heap.size := size_of_box hX7
            have hlt8 : w1.heap.size < w7.heap.size := hA7.lt
            have hv1 := Hbd.out xn
            have hv0 := Hbd0.out xn
            have hg0 := Hgv0.out xn
            have hstep := mapSt_step (C := C) (h := hF) (give := gF) (m := many) (left := left) (x := xn)
            obtain ⟨hv, hhv⟩ : ∃ v, hF xn = v := ⟨_, rfl⟩
            rw [← k3] at hv1 hg0 hstep
            rw [hhv] at hv1 hv0 hAc hstep
            have hp0 : 0 ≤ c * many := Int.mul_nonneg hg0 (by omega)
            have hw1 : IntKind.i64.wrap (c * many) = c * many := by rw [IntKind.wrap_i64]; omega
            have hw2 : IntKind.i64.wrap (hv + c * many) = hv + c * many := by rw [IntKind.wrap_i64]; omega
            have Hrg1 := Lib.hid hrg1; have HA7 := Lib.hid hA7; have HX7 := Lib.hid hX7; have Hstep := Lib.hid hstep; have Hb7 := Lib.hid hb7
            have hkC : (xn : Int) < C := k2
            clear hrg1 hA7 hX7 hstep hb7 hv1 hv0 hg0 hhv k3 hat hg7 hA hX hbi xc hp0 hwx hwc hlx hmany k1 k2
            go_wp2
            go_still_tail 9, (by kernel_rfl)
            go_wp2
            have hrs := ranges_drew (World.ranges.kept (w' := w7.setCell ⟨w1.heap.size, xn, none⟩ (.int .i64 (hv + c * many))) Hrg1.out (grownBy_setC _ _ _) (fun e => hne3 (Option.some.inj e)) (fun e => hne1 (Option.some.inj e)))
            refine ⟨⟨_, cnt1, Lib.hid hrs, Lib.hid (by rw [Hstep.out]; exact Arr.set (show Arr .i64 w7.drew _ _ _ from HA7.out) _ _), Lib.hid ((Below.heap_setCell _ _ _ _ (by simpa using hne2)).trans HX7.out), Lib.hid ((Hb7.out.drew).setCell (p := ⟨w1.heap.size, xn, none⟩) (Nat.le_refl _) _)⟩, ?_⟩
            rw [hrs.left_eq, hrg.out.left_eq]; exact hltc
    · obtain rfl : i = n := by omega
      have hfull : Arr .i64 wr w1.heap.size 3 (fl C (hadF rule rows C)) := by have := hA.out; rwa [List.take_of_length_le (by rw [Hn.out]; exact Nat.le_refl _)] at this
      have hbz : ∀ i, 0 ≤ hadF rule rows C i ∧ hadF rule rows C i ≤ 10000000 := fun i => by have := Hbound.out rows.length i; rwa [List.take_length] at this
      have hlq0 : lost = lostS rule rows := by have := hlost.out; rwa [List.take_of_length_le (by rw [Hn.out]; exact Nat.le_refl _)] at this
      obtain ⟨ln, rfl⟩ : ∃ ln : Nat, lost = (ln : Int) := ⟨lost.toNat, by have := (Hlb.out rows.length).1; rw [List.take_length] at this; omega⟩
      have hb3 : Below w.heap.size w wr := hbw
      have hd0 : RInts (fun b => b < w1.heap.size + 1) wr (.slice (some ⟨w1.heap.size, 0, none⟩) C C) (fl C (hadF rule rows C)) := hfull.all (S := fun b => b < w1.heap.size + 1) (by omega) (fun x hx => by obtain ⟨i, hi, rfl⟩ := List.getElem_of_mem hx; rw [fl_get]; exact WalkArith.wf_i64 (by have := hbz i; omega)) (by rw [fl_length]; omega) (n := C) (cap := C) (by rw [fl_length]) (Nat.le_refl _)
      have hof := HOf2.out wr hb3
      have gO := (hb.block _ (by omega)).trans G1.out
      have hltr : w.heap.size + 2 < wr.heap.size := size_of_box gO
      have GO := Lib.hid gO; have HOf3 := Lib.hid hof; have Hd0 := Lib.hid hd0; have Hlq := Lib.hid hlq0; have Hb3 := Lib.hid hb3
      clear gO hlq0 hbz hfull hA hlost hof hd0 hb3 hbw
      go_wp2_with (first
        | (go_at_call 80; refine HOf3.out.mono ?_; rintro e w4 ⟨g, vl, rfl, hg, hvl, hge, hgs, hb4⟩; have g4 := (hb4.block _ hltr).trans GO.out; have hq4 := Hb3.out.trans (hb4.mono Hb3.out.size); have hw2g : w.heap.size + 2 < g := (by omega); have hd4 : RInts (fun b => b < g) w4 (.slice (some ⟨w1.heap.size, 0, none⟩) C C) (fl C (hadF rule rows C)) := ((Hd0.out.same (.of_below hb4)).mono fun b hb => (by omega)); have Hone := Lib.hid (HO.out w4 g vl _ ln hg hd4 _ hvl (fun b hb => (by omega)) Hlq.out); have hz4 : w.heap.size + 2 < w4.heap.size := (by omega); have G4 := Lib.hid g4; have Hq4 := Lib.hid hq4; clear hg hvl hb4 g4 hq4 hd4)
        | (go_at_call 81; refine Hone.out.mono ?_; rintro e w5 ⟨b1, m1, c1, b2, m2, c2, b3, m3, c3, rfl, k1, k2⟩; obtain ⟨g3, gc3, gf3⟩ := own_box k2 hw2g G4.out; have gc30 := gc3 0; have gc31 := gc3 1; have gc32 := gc3 2; have gf30 := gf3 0; have gf31 := gf3 1; have gf32 := gf3 2; have hlt3 : w.heap.size + 2 < w5.heap.size := size_of_box g3; have K1 := Lib.hid k1; have K2 := Lib.hid k2; clear k1 k2 g3))
      refine bodyPost_ret (v := .tuple #[.agg #[.slice b1 m1 c1, .slice b2 m2 c2, .slice b3 m3 c3], .int .i64 0]) (by simp [results, Tryz.results47, go_sem, gc3]) rfl (HG.out w4 w5 _ _ K1.out hz4 ?_ ?_)
      · exact (((Same.refl _ _).setCell (by simp) _).setCell (by simp) _).setCell (by simp) _
      · exact (((Hq4.out.trans (K2.out.mono (by omega))).setCell (p := ⟨w.heap.size + 2, 0, none⟩) (by simp) _).setCell (p := ⟨w.heap.size + 2, 1, none⟩) (by simp) _).setCell (p := ⟨w.heap.size + 2, 2, none⟩) (by simp) _
end Go.Proofs.YtogngcbflhdadaaGreat

/- The contracts of the program's four rules of one round (printed by gensin.py). -/
namespace Go.Proofs.YtogngcbflhdadaaGreat
open Go Go.RowKit Go.Shelf Go.Maps

theorem sinCount (rule gf lf : Nat) (S T : Nat → Prop) (u v : Value) (p : Prof) (seats : Int) (lot : List Int) (w : World) (h : VProf S w u p) (hv : RInts T w v lot) (hlo : lot.length ≤ 1000000)
    (eg : ∀ args w, (callFunc gf args).run Tryz.prog w = .ok (.enter gf args) w) (el : ∀ args w, (callFunc lf args).run Tryz.prog w = .ok (.enter lf args) w)
    (hgf : ∀ (W : World) (x : Value) (marks : List Int) (C : Nat), RInts Any W x marks → marks.length ≤ 1000000 → C ≤ 1000 → Calls Tryz.prog gf #[x, .int .i64 C] W (GivesMap rule marks C W))
    (hlf : ∀ (W : World) (x : Value) (marks : List Int), RInts Any W x marks → Calls Tryz.prog lf #[x] W fun e w' => e = .returned (.bool (lostL rule marks)) ∧ w' = W) :
    Calls Tryz.prog 47 #[.agg #[.int .u8 (kindL rule), .func (.func gf) #[] #[], .func (.func lf) #[] #[]], u, .int .i64 seats, v] w (GivesSI rule p seats lot w) := by
  by_cases h0 : singleI rule p seats lot = 0
  · exact sinCount_ok rule gf lf S T u v p seats lot w h hv h0 eg el hgf hlf
  · exact sinCount_bad rule gf lf S T u v p seats lot w h hv hlo h0
theorem GivesSI.open {rule : Nat} {p : Prof} {seats : Int} {lot : List Int} {w : World} {e : Ending} {w' : World} (h : GivesSI rule p seats lot w e w') :
    ∃ b1 m1 c1 b2 m2 c2 b3 m3 c3, e = .returned (.tuple #[.agg #[.slice b1 m1 c1, .slice b2 m2 c2, .slice b3 m3 c3], .int .i64 (singleI rule p seats lot)]) ∧ VOutc (From w.heap.size) w' (.agg #[.slice b1 m1 c1, .slice b2 m2 c2, .slice b3 m3 c3]) (singleV rule p seats lot) ∧ Below w.heap.size w w' := by
  obtain ⟨v, rfl, k2, k3⟩ := h
  obtain ⟨x1, x2, x3, rfl, q1, q2, q3⟩ := k2
  obtain ⟨b1, m1, c1, rfl⟩ := RSl.slice q1
  obtain ⟨b2, m2, c2, rfl⟩ := RSl.slice q2
  obtain ⟨b3, m3, c3, rfl⟩ := RSl.slice q3
  exact ⟨_, _, _, _, _, _, _, _, _, rfl, ⟨_, _, _, rfl, q1, q2, q3⟩, k3⟩
set_option maxHeartbeats 1000000 in
theorem sinPlurality (S T : Nat → Prop) (u v : Value) (p : Prof) (seats : Int) (lot : List Int) (w : World) (h : VProf S w u p) (hv : RInts T w v lot) (hlo : lot.length ≤ 1000000) :
    Calls Tryz.prog 14 #[u, .int .i64 seats, v] w (GivesSI 0 p seats lot w) := by
  have h1 := h
  obtain ⟨a, cap, rfl, -, -, -⟩ := h
  obtain ⟨a2, cap2, rfl, -, -⟩ := RSl.shape hv
  obtain ⟨W2, hW2⟩ : ∃ W2, W2 = (w.alloc (.cells #[.int .i64 p.cands, .int .u8 p.kind, .slice a p.rows.length cap] 24)).alloc (.cells #[.slice none 0 0, .slice none 0 0, .slice none 0 0] 32) := ⟨_, rfl⟩
  have hb0 : Below w.heap.size w W2 := by rw [hW2]; exact ((Below.refl _ _).alloc (Nat.le_refl _) _).alloc (by simp) _
  have hbx : W2.heap[w.heap.size + 1]? = some (.cells #[.slice none 0 0, .slice none 0 0, .slice none 0 0] 32 (0, 0)) := by
    have := box_new (w.alloc (.cells #[.int .i64 p.cands, .int .u8 p.kind, .slice a p.rows.length cap] 24)) (.cells #[.slice none 0 0, .slice none 0 0, .slice none 0 0] 32)
    rw [hW2]
    rwa [World.size_alloc] at this
  have hz2 : W2.heap.size = w.heap.size + 2 := by rw [hW2]; simp
  have hM := sinCount 0 45 46 S T _ _ p seats lot W2 (h1.same (.of_below hb0)) (hv.same (.of_below hb0)) hlo (enters_of Tryz.func45 (by kernel_rfl) rfl) (enters_of Tryz.func46 (by kernel_rfl) rfl)
    (fun W x marks C h hl _ => sinMarked 0 (by omega) Any x marks C W h hl) (fun W x marks h => sinAlone Any x marks W h)
  have hG : ∀ (I : Int) (w3 : World) (x : Value) (w' : World), I = singleI 0 p seats lot → VOutc (From W2.heap.size) w3 x (singleV 0 p seats lot) → Same (fun b => b ≠ w.heap.size + 1) w3 w' → Below w.heap.size w w' → GivesSI 0 p seats lot w (.returned (.tuple #[x, .int .i64 I])) w' := fun I w3 x w' k0 k1 k3 k4 =>
    ⟨x, by rw [k0], VOutc.mono (fun b hb => Nat.le_trans (by omega) hb) (k1.same (k3.mono fun b hb e => by have : W2.heap.size ≤ b := hb; omega)), k4⟩
  have hO := hM.mono fun e w' hh => GivesSI.open hh
  obtain ⟨cands, hc⟩ : ∃ c, p.cands = c := ⟨_, rfl⟩
  obtain ⟨kk, hkk⟩ : ∃ c, p.kind = c := ⟨_, rfl⟩
  obtain ⟨n, hn⟩ : ∃ n, p.rows.length = n := ⟨_, rfl⟩
  obtain ⟨nl, hnl⟩ : ∃ n, lot.length = n := ⟨_, rfl⟩
  obtain ⟨I, hI⟩ : ∃ I, singleI 0 p seats lot = I := ⟨_, rfl⟩
  rw [hc, hkk, hn, hnl, hI] at hO
  rw [hc, hkk, hn] at hW2
  rw [hI] at hG
  rw [hc, hkk, hn, hnl]
  have hO2 := hO
  rw [hW2] at hO2
  have HO := Lib.hid hO2; have HG := Lib.hid hG; have Hbx := Lib.hid hbx; have Hz2 := Lib.hid hz2; have HW2 := Lib.hid hW2; have Hb0 := Lib.hid hb0
  clear hO hO2 hM hG hbx hz2 hW2 hb0 h1 hv hc hkk hn hnl hI hlo
  go_enter Tryz.func14, Tryz.ntmps14
  go_wp2_with (go_at_call 47; refine HO.out.mono ?_; rintro e w5 ⟨b1, m1, c1, b2, m2, c2, b3, m3, c3, rfl, k1, k2⟩; rw [← HW2.out] at k1 k2; obtain ⟨g3, gc3, gf3⟩ := own_box k2 (by rw [Hz2.out]; omega) Hbx.out; have gc30 := gc3 0; have gc31 := gc3 1; have gc32 := gc3 2; have gf30 := gf3 0; have gf31 := gf3 1; have gf32 := gf3 2; have hlt3 : w.heap.size + 1 < w5.heap.size := size_of_box g3; have K1 := Lib.hid k1; have K2 := Lib.hid k2; clear k1 k2 g3)
  refine bodyPost_ret (v := .tuple #[.agg #[.slice b1 m1 c1, .slice b2 m2 c2, .slice b3 m3 c3], .int .i64 I]) (by simp [results, Tryz.results14, go_sem, gc3]) rfl (HG.out I w5 _ _ rfl K1.out ?_ ?_)
  · exact (((Same.refl _ _).setCell (by simp) _).setCell (by simp) _).setCell (by simp) _
  · exact (((Hb0.out.trans (K2.out.mono (by rw [Hz2.out]; omega))).setCell (p := ⟨w.heap.size + 1, 0, none⟩) (by simp) _).setCell (p := ⟨w.heap.size + 1, 1, none⟩) (by simp) _).setCell (p := ⟨w.heap.size + 1, 2, none⟩) (by simp) _
set_option maxHeartbeats 1000000 in
theorem sinApproval (S T : Nat → Prop) (u v : Value) (p : Prof) (seats : Int) (lot : List Int) (w : World) (h : VProf S w u p) (hv : RInts T w v lot) (hlo : lot.length ≤ 1000000) :
    Calls Tryz.prog 16 #[u, .int .i64 seats, v] w (GivesSI 1 p seats lot w) := by
  have h1 := h
  obtain ⟨a, cap, rfl, -, -, -⟩ := h
  obtain ⟨a2, cap2, rfl, -, -⟩ := RSl.shape hv
  obtain ⟨W2, hW2⟩ : ∃ W2, W2 = (w.alloc (.cells #[.int .i64 p.cands, .int .u8 p.kind, .slice a p.rows.length cap] 24)).alloc (.cells #[.slice none 0 0, .slice none 0 0, .slice none 0 0] 32) := ⟨_, rfl⟩
  have hb0 : Below w.heap.size w W2 := by rw [hW2]; exact ((Below.refl _ _).alloc (Nat.le_refl _) _).alloc (by simp) _
  have hbx : W2.heap[w.heap.size + 1]? = some (.cells #[.slice none 0 0, .slice none 0 0, .slice none 0 0] 32 (0, 0)) := by
    have := box_new (w.alloc (.cells #[.int .i64 p.cands, .int .u8 p.kind, .slice a p.rows.length cap] 24)) (.cells #[.slice none 0 0, .slice none 0 0, .slice none 0 0] 32)
    rw [hW2]
    rwa [World.size_alloc] at this
  have hz2 : W2.heap.size = w.heap.size + 2 := by rw [hW2]; simp
  have hM := sinCount 1 45 50 S T _ _ p seats lot W2 (h1.same (.of_below hb0)) (hv.same (.of_below hb0)) hlo (enters_of Tryz.func45 (by kernel_rfl) rfl) (enters_of Tryz.func50 (by kernel_rfl) rfl)
    (fun W x marks C h hl _ => sinMarked 1 (by omega) Any x marks C W h hl) (fun W x marks _ => sinNever 1 (by omega) x marks W)
  have hG : ∀ (I : Int) (w3 : World) (x : Value) (w' : World), I = singleI 1 p seats lot → VOutc (From W2.heap.size) w3 x (singleV 1 p seats lot) → Same (fun b => b ≠ w.heap.size + 1) w3 w' → Below w.heap.size w w' → GivesSI 1 p seats lot w (.returned (.tuple #[x, .int .i64 I])) w' := fun I w3 x w' k0 k1 k3 k4 =>
    ⟨x, by rw [k0], VOutc.mono (fun b hb => Nat.le_trans (by omega) hb) (k1.same (k3.mono fun b hb e => by have : W2.heap.size ≤ b := hb; omega)), k4⟩
  have hO := hM.mono fun e w' hh => GivesSI.open hh
  obtain ⟨cands, hc⟩ : ∃ c, p.cands = c := ⟨_, rfl⟩
  obtain ⟨kk, hkk⟩ : ∃ c, p.kind = c := ⟨_, rfl⟩
  obtain ⟨n, hn⟩ : ∃ n, p.rows.length = n := ⟨_, rfl⟩
  obtain ⟨nl, hnl⟩ : ∃ n, lot.length = n := ⟨_, rfl⟩
  obtain ⟨I, hI⟩ : ∃ I, singleI 1 p seats lot = I := ⟨_, rfl⟩
  rw [hc, hkk, hn, hnl, hI] at hO
  rw [hc, hkk, hn] at hW2
  rw [hI] at hG
  rw [hc, hkk, hn, hnl]
  have hO2 := hO
  rw [hW2] at hO2
  have HO := Lib.hid hO2; have HG := Lib.hid hG; have Hbx := Lib.hid hbx; have Hz2 := Lib.hid hz2; have HW2 := Lib.hid hW2; have Hb0 := Lib.hid hb0
  clear hO hO2 hM hG hbx hz2 hW2 hb0 h1 hv hc hkk hn hnl hI hlo
  go_enter Tryz.func16, Tryz.ntmps16
  go_wp2_with (go_at_call 47; refine HO.out.mono ?_; rintro e w5 ⟨b1, m1, c1, b2, m2, c2, b3, m3, c3, rfl, k1, k2⟩; rw [← HW2.out] at k1 k2; obtain ⟨g3, gc3, gf3⟩ := own_box k2 (by rw [Hz2.out]; omega) Hbx.out; have gc30 := gc3 0; have gc31 := gc3 1; have gc32 := gc3 2; have gf30 := gf3 0; have gf31 := gf3 1; have gf32 := gf3 2; have hlt3 : w.heap.size + 1 < w5.heap.size := size_of_box g3; have K1 := Lib.hid k1; have K2 := Lib.hid k2; clear k1 k2 g3)
  refine bodyPost_ret (v := .tuple #[.agg #[.slice b1 m1 c1, .slice b2 m2 c2, .slice b3 m3 c3], .int .i64 I]) (by simp [results, Tryz.results16, go_sem, gc3]) rfl (HG.out I w5 _ _ rfl K1.out ?_ ?_)
  · exact (((Same.refl _ _).setCell (by simp) _).setCell (by simp) _).setCell (by simp) _
  · exact (((Hb0.out.trans (K2.out.mono (by rw [Hz2.out]; omega))).setCell (p := ⟨w.heap.size + 1, 0, none⟩) (by simp) _).setCell (p := ⟨w.heap.size + 1, 1, none⟩) (by simp) _).setCell (p := ⟨w.heap.size + 1, 2, none⟩) (by simp) _
set_option maxHeartbeats 1000000 in
theorem sinScore (S T : Nat → Prop) (u v : Value) (p : Prof) (seats : Int) (lot : List Int) (w : World) (h : VProf S w u p) (hv : RInts T w v lot) (hlo : lot.length ≤ 1000000) :
    Calls Tryz.prog 18 #[u, .int .i64 seats, v] w (GivesSI 2 p seats lot w) := by
  have h1 := h
  obtain ⟨a, cap, rfl, -, -, -⟩ := h
  obtain ⟨a2, cap2, rfl, -, -⟩ := RSl.shape hv
  obtain ⟨W2, hW2⟩ : ∃ W2, W2 = (w.alloc (.cells #[.int .i64 p.cands, .int .u8 p.kind, .slice a p.rows.length cap] 24)).alloc (.cells #[.slice none 0 0, .slice none 0 0, .slice none 0 0] 32) := ⟨_, rfl⟩
  have hb0 : Below w.heap.size w W2 := by rw [hW2]; exact ((Below.refl _ _).alloc (Nat.le_refl _) _).alloc (by simp) _
  have hbx : W2.heap[w.heap.size + 1]? = some (.cells #[.slice none 0 0, .slice none 0 0, .slice none 0 0] 32 (0, 0)) := by
    have := box_new (w.alloc (.cells #[.int .i64 p.cands, .int .u8 p.kind, .slice a p.rows.length cap] 24)) (.cells #[.slice none 0 0, .slice none 0 0, .slice none 0 0] 32)
    rw [hW2]
    rwa [World.size_alloc] at this
  have hz2 : W2.heap.size = w.heap.size + 2 := by rw [hW2]; simp
  have hM := sinCount 2 51 50 S T _ _ p seats lot W2 (h1.same (.of_below hb0)) (hv.same (.of_below hb0)) hlo (enters_of Tryz.func51 (by kernel_rfl) rfl) (enters_of Tryz.func50 (by kernel_rfl) rfl)
    (fun W x marks C h hl _ => sinScored Any x marks C W h hl) (fun W x marks _ => sinNever 2 (by omega) x marks W)
  have hG : ∀ (I : Int) (w3 : World) (x : Value) (w' : World), I = singleI 2 p seats lot → VOutc (From W2.heap.size) w3 x (singleV 2 p seats lot) → Same (fun b => b ≠ w.heap.size + 1) w3 w' → Below w.heap.size w w' → GivesSI 2 p seats lot w (.returned (.tuple #[x, .int .i64 I])) w' := fun I w3 x w' k0 k1 k3 k4 =>
    ⟨x, by rw [k0], VOutc.mono (fun b hb => Nat.le_trans (by omega) hb) (k1.same (k3.mono fun b hb e => by have : W2.heap.size ≤ b := hb; omega)), k4⟩
  have hO := hM.mono fun e w' hh => GivesSI.open hh
  obtain ⟨cands, hc⟩ : ∃ c, p.cands = c := ⟨_, rfl⟩
  obtain ⟨kk, hkk⟩ : ∃ c, p.kind = c := ⟨_, rfl⟩
  obtain ⟨n, hn⟩ : ∃ n, p.rows.length = n := ⟨_, rfl⟩
  obtain ⟨nl, hnl⟩ : ∃ n, lot.length = n := ⟨_, rfl⟩
  obtain ⟨I, hI⟩ : ∃ I, singleI 2 p seats lot = I := ⟨_, rfl⟩
  rw [hc, hkk, hn, hnl, hI] at hO
  rw [hc, hkk, hn] at hW2
  rw [hI] at hG
  rw [hc, hkk, hn, hnl]
  have hO2 := hO
  rw [hW2] at hO2
  have HO := Lib.hid hO2; have HG := Lib.hid hG; have Hbx := Lib.hid hbx; have Hz2 := Lib.hid hz2; have HW2 := Lib.hid hW2; have Hb0 := Lib.hid hb0
  clear hO hO2 hM hG hbx hz2 hW2 hb0 h1 hv hc hkk hn hnl hI hlo
  go_enter Tryz.func18, Tryz.ntmps18
  go_wp2_with (go_at_call 47; refine HO.out.mono ?_; rintro e w5 ⟨b1, m1, c1, b2, m2, c2, b3, m3, c3, rfl, k1, k2⟩; rw [← HW2.out] at k1 k2; obtain ⟨g3, gc3, gf3⟩ := own_box k2 (by rw [Hz2.out]; omega) Hbx.out; have gc30 := gc3 0; have gc31 := gc3 1; have gc32 := gc3 2; have gf30 := gf3 0; have gf31 := gf3 1; have gf32 := gf3 2; have hlt3 : w.heap.size + 1 < w5.heap.size := size_of_box g3; have K1 := Lib.hid k1; have K2 := Lib.hid k2; clear k1 k2 g3)
  refine bodyPost_ret (v := .tuple #[.agg #[.slice b1 m1 c1, .slice b2 m2 c2, .slice b3 m3 c3], .int .i64 I]) (by simp [results, Tryz.results18, go_sem, gc3]) rfl (HG.out I w5 _ _ rfl K1.out ?_ ?_)
  · exact (((Same.refl _ _).setCell (by simp) _).setCell (by simp) _).setCell (by simp) _
  · exact (((Hb0.out.trans (K2.out.mono (by rw [Hz2.out]; omega))).setCell (p := ⟨w.heap.size + 1, 0, none⟩) (by simp) _).setCell (p := ⟨w.heap.size + 1, 1, none⟩) (by simp) _).setCell (p := ⟨w.heap.size + 1, 2, none⟩) (by simp) _
set_option maxHeartbeats 1000000 in
theorem sinBorda (S T : Nat → Prop) (u v : Value) (p : Prof) (seats : Int) (lot : List Int) (w : World) (h : VProf S w u p) (hv : RInts T w v lot) (hlo : lot.length ≤ 1000000) :
    Calls Tryz.prog 20 #[u, .int .i64 seats, v] w (GivesSI 3 p seats lot w) := by
  have h1 := h
  obtain ⟨a, cap, rfl, -, -, -⟩ := h
  obtain ⟨a2, cap2, rfl, -, -⟩ := RSl.shape hv
  obtain ⟨W2, hW2⟩ : ∃ W2, W2 = (w.alloc (.cells #[.int .i64 p.cands, .int .u8 p.kind, .slice a p.rows.length cap] 24)).alloc (.cells #[.slice none 0 0, .slice none 0 0, .slice none 0 0] 32) := ⟨_, rfl⟩
  have hb0 : Below w.heap.size w W2 := by rw [hW2]; exact ((Below.refl _ _).alloc (Nat.le_refl _) _).alloc (by simp) _
  have hbx : W2.heap[w.heap.size + 1]? = some (.cells #[.slice none 0 0, .slice none 0 0, .slice none 0 0] 32 (0, 0)) := by
    have := box_new (w.alloc (.cells #[.int .i64 p.cands, .int .u8 p.kind, .slice a p.rows.length cap] 24)) (.cells #[.slice none 0 0, .slice none 0 0, .slice none 0 0] 32)
    rw [hW2]
    rwa [World.size_alloc] at this
  have hz2 : W2.heap.size = w.heap.size + 2 := by rw [hW2]; simp
  have hM := sinCount 3 52 50 S T _ _ p seats lot W2 (h1.same (.of_below hb0)) (hv.same (.of_below hb0)) hlo (enters_of Tryz.func52 (by kernel_rfl) rfl) (enters_of Tryz.func50 (by kernel_rfl) rfl)
    (fun W x marks C h hl hC => sinRanked Any x marks C W h hl hC) (fun W x marks _ => sinNever 3 (by omega) x marks W)
  have hG : ∀ (I : Int) (w3 : World) (x : Value) (w' : World), I = singleI 3 p seats lot → VOutc (From W2.heap.size) w3 x (singleV 3 p seats lot) → Same (fun b => b ≠ w.heap.size + 1) w3 w' → Below w.heap.size w w' → GivesSI 3 p seats lot w (.returned (.tuple #[x, .int .i64 I])) w' := fun I w3 x w' k0 k1 k3 k4 =>
    ⟨x, by rw [k0], VOutc.mono (fun b hb => Nat.le_trans (by omega) hb) (k1.same (k3.mono fun b hb e => by have : W2.heap.size ≤ b := hb; omega)), k4⟩
  have hO := hM.mono fun e w' hh => GivesSI.open hh
  obtain ⟨cands, hc⟩ : ∃ c, p.cands = c := ⟨_, rfl⟩
  obtain ⟨kk, hkk⟩ : ∃ c, p.kind = c := ⟨_, rfl⟩
  obtain ⟨n, hn⟩ : ∃ n, p.rows.length = n := ⟨_, rfl⟩
  obtain ⟨nl, hnl⟩ : ∃ n, lot.length = n := ⟨_, rfl⟩
  obtain ⟨I, hI⟩ : ∃ I, singleI 3 p seats lot = I := ⟨_, rfl⟩
  rw [hc, hkk, hn, hnl, hI] at hO
  rw [hc, hkk, hn] at hW2
  rw [hI] at hG
  rw [hc, hkk, hn, hnl]
  have hO2 := hO
  rw [hW2] at hO2
  have HO := Lib.hid hO2; have HG := Lib.hid hG; have Hbx := Lib.hid hbx; have Hz2 := Lib.hid hz2; have HW2 := Lib.hid hW2; have Hb0 := Lib.hid hb0
  clear hO hO2 hM hG hbx hz2 hW2 hb0 h1 hv hc hkk hn hnl hI hlo
  go_enter Tryz.func20, Tryz.ntmps20
  go_wp2_with (go_at_call 47; refine HO.out.mono ?_; rintro e w5 ⟨b1, m1, c1, b2, m2, c2, b3, m3, c3, rfl, k1, k2⟩; rw [← HW2.out] at k1 k2; obtain ⟨g3, gc3, gf3⟩ := own_box k2 (by rw [Hz2.out]; omega) Hbx.out; have gc30 := gc3 0; have gc31 := gc3 1; have gc32 := gc3 2; have gf30 := gf3 0; have gf31 := gf3 1; have gf32 := gf3 2; have hlt3 : w.heap.size + 1 < w5.heap.size := size_of_box g3; have K1 := Lib.hid k1; have K2 := Lib.hid k2; clear k1 k2 g3)
  refine bodyPost_ret (v := .tuple #[.agg #[.slice b1 m1 c1, .slice b2 m2 c2, .slice b3 m3 c3], .int .i64 I]) (by simp [results, Tryz.results20, go_sem, gc3]) rfl (HG.out I w5 _ _ rfl K1.out ?_ ?_)
  · exact (((Same.refl _ _).setCell (by simp) _).setCell (by simp) _).setCell (by simp) _
  · exact (((Hb0.out.trans (K2.out.mono (by rw [Hz2.out]; omega))).setCell (p := ⟨w.heap.size + 1, 0, none⟩) (by simp) _).setCell (p := ⟨w.heap.size + 1, 1, none⟩) (by simp) _).setCell (p := ⟨w.heap.size + 1, 2, none⟩) (by simp) _
end Go.Proofs.YtogngcbflhdadaaGreat
