/- The contracts on manifests: canvass.named, the reference's GreatSlots, both Checks. -/
import Derived.Test.YtkjgddcjhikdgaaCmp
import Derived.Test.YtkjgddcjhikdgaaMap
namespace Go.Proofs.Ytkjgddcjhikdgaa
open Go Go.RowKit Go.Shelf Go.Maps Go.WideMaps

set_option maxHeartbeats 400000 in
theorem bad_predC (w : World) : PredAt Try.prog 128 #[] encR badRune w := by
  intro W r _
  unfold FnGives
  by_cases h1 : r < 33
  · have hb : badRune r = true := by simp [badRune, h1]
    have Hb := Lib.hid hb; clear hb
    have h1' : (r : Int) < 33 := by omega
    go_enter Try.func128, Try.ntmps128
    go_wp2
    go_ret
    exact ⟨ret_bool Hb.out.symm, 0, rfl⟩
  · by_cases h2 : 126 < r
    · have hb : badRune r = true := by simp [badRune, h2]
      have Hb := Lib.hid hb; clear hb
      have h1' : ¬ (r : Int) < 33 := by omega
      have h2' : (126 : Int) < r := by omega
      go_enter Try.func128, Try.ntmps128
      go_wp2
      go_ret
      exact ⟨ret_bool Hb.out.symm, 0, rfl⟩
    · have hb : badRune r = false := by rw [badRune, decide_eq_false h1, decide_eq_false h2]; rfl
      have Hb := Lib.hid hb; clear hb
      have h1' : ¬ (r : Int) < 33 := by omega
      have h2' : ¬ (126 : Int) < r := by omega
      go_enter Try.func128, Try.ntmps128
      go_wp2
      go_ret
      exact ⟨ret_bool (by rw [Hb.out]), 0, rfl⟩

set_option maxHeartbeats 400000 in
theorem namedC (s : ByteArray) (w : World) (hs : s.size ≤ 140737488355328) :
    Calls Try.prog 79 #[.string s] w fun e w' => e = .returned (.bool (nameB s)) ∧ Below w.heap.size w w' := by
  have hC := fun W => Try.strings_ContainsFunc 128 #[] (enters_of Try.func128 (by kernel_rfl) rfl) badRune s W (bad_predC W)
  have HC := Lib.hid hC; clear hC
  go_enter Try.func79, Try.ntmps79
  go_wp2_with (go_at_call 127; refine (HC.out _).mono ?_; rintro e w1 ⟨rfl, hb1⟩)
  · have h0 : s.toList = [] := by assumption
    rw [ByteArray.toList_eq] at h0
    have h1 : s.size = 0 := by have := congrArg List.length h0; simpa using this
    go_ret
    exact ⟨ret_bool (by simp [nameB, h1]), Below.refl _ _⟩
  · have h0 : ¬ s.toList = [] := by assumption
    have h2 : (s.size : Int) ≤ 40 := by assumption
    have h1 : 1 ≤ s.size := by
      rcases Nat.eq_zero_or_pos s.size with h | h
      · rw [ByteArray.toList_eq] at h0
        exact absurd (List.eq_nil_of_length_eq_zero (by simpa using h)) h0
      · exact h
    have h3 : s.size ≤ 40 := by omega
    go_ret
    refine ⟨ret_bool ?_, hb1⟩
    rw [idx_name, Bool.not_not, nameB, decide_eq_true h1, decide_eq_true h3]
    have : s.toList.isEmpty = false := by simpa using h0
    simp [this]
  · have h2 : 40 < (s.size : Int) := by assumption
    go_ret
    have h3 : ¬ s.size ≤ 40 := by omega
    exact ⟨ret_bool (by simp [nameB, h3]), Below.refl _ _⟩
def greatS (m : List Slot) : Bool := decide (100 < m.length) || m.any (fun s => decide (1000 < s.name.size))
set_option maxHeartbeats 400000 in
theorem greatSlots (S : Nat → Prop) (v : Value) (m : List Slot) (w : World) (h : RSl S 2 dSlot w v m) :
    Calls Try.prog 27 #[v] w fun e w' => e = .returned (.bool (greatS m)) ∧ Below w.heap.size w w' := by
  obtain ⟨a, cap, rfl, h1, h2⟩ := RSl.shape h
  by_cases h20 : 100 < m.length
  · go_enter Try.func27, Try.ntmps27
    go_wp2
    go_ret
    exact ⟨by simp [greatS, h20], Below.refl _ _⟩
  go_enter Try.func27, Try.ntmps27
  go_wp2
  go_loopw [3] (fun i wr => ∃ k : Nat, k ≤ m.length ∧ i = .int .i64 k ∧ Hid ((m.take k).any (fun s => decide (1000 < s.name.size)) = false) ∧ Below w.heap.size w wr) (fun i _ => m.length - (intOf i).toNat)
  case atStart => exact ⟨0, Nat.zero_le _, rfl, Lib.hid rfl, Below.refl _ _⟩
  case round =>
    obtain ⟨k, hk, rfl, hg, hb⟩ := hrel
    by_cases hlt : k < m.length
    · obtain ⟨b, off, c, d, rfl, hS, hbw, hc, hd, hx⟩ := RSl.at2 (RSl.same (dSlot.stable _) (.of_below hb) h) k hlt
      obtain ⟨⟨rfl, rfl⟩, hn, -⟩ := hx.open
      by_cases c1 : 1000 < m[k].name.size
      · go_wp2
        go_ret
        exact ⟨ret_bool (by rw [greatS, any_of_get _ m k hlt (decide_eq_true c1)]; simp), hb⟩
      · have ht : (m.take (k + 1)).any (fun s => decide (1000 < s.name.size)) = false := by rw [any_take_succ _ _ _ hlt, hg.out, decide_eq_false c1]; rfl
        have Ht := Lib.hid ht; clear ht hx
        go_wp2
        exact ⟨⟨k + 1, by omega, by go_num, Ht, hb⟩, by simp [intOf]; omega⟩
    · go_wp2
      go_ret
      rw [List.take_of_length_le (by omega)] at hg
      exact ⟨ret_bool (by rw [greatS, hg.out]; simp [h20]), hb⟩

def fineS (s : Slot) : Bool := nameB s.name && decide (0 ≤ s.many ∧ s.many ≤ 64)
def zS : Slot := ⟨⟨#[]⟩, 0⟩
def okAtS (m : List Slot) (k : Nat) : Bool := fineS (m.getD k zS) && !((m.take k).any fun t => sameName t.name (m.getD k zS).name)
def chkS (m : List Slot) : Int := if 16 < m.length then 4 else if (List.range m.length).all (okAtS m) then 0 else 8
theorem range_bad {p : Nat → Bool} {n k : Nat} (hk : k < n) (h : p k = false) : (List.range n).all p = false := by
  cases hb : (List.range n).all p
  · rfl
  · rw [List.all_eq_true] at hb
    rw [hb k (List.mem_range.2 hk)] at h
    cases h
theorem okAtS_of {m : List Slot} {k : Nat} (hk : k < m.length) : okAtS m k = (fineS m[k] && !((m.take k).any fun t => sameName t.name m[k].name)) := by simp only [okAtS, getD_at zS hk]
theorem chkS_bad {m : List Slot} {k : Nat} (h16 : ¬ 16 < m.length) (hk : k < m.length) (h : okAtS m k = false) : chkS m = 8 := by rw [chkS, if_neg h16, range_bad hk h]; rfl
theorem sameName_eq (a b : ByteArray) : sameName a b = decide (a.data.toList = b.data.toList) := by rw [sameName, ByteArray.toList_eq, ByteArray.toList_eq, Bool.eq_iff_iff]; simp
theorem sameName_comm (a b : ByteArray) : sameName a b = sameName b a := by rw [sameName_eq, sameName_eq]; exact decide_eq_decide.2 eq_comm

set_option maxHeartbeats 2000000 in
set_option maxRecDepth 100000 in
theorem canvassCheck (S : Nat → Prop) (v : Value) (m : List Slot) (w : World) (h : RSl S 2 dSlot w v m) :
    Calls Try.prog 30 #[v] w fun e w' => e = .returned (.int .i64 (chkS m)) ∧ Below w.heap.size w w' := by
  obtain ⟨a, cap, rfl, h1, h2⟩ := RSl.shape h
  by_cases h16 : 16 < m.length
  · have hr : chkS m = 4 := by rw [chkS, if_pos h16]
    have Hr := Lib.hid hr; clear hr
    go_enter Try.func30, Try.ntmps30
    go_wp2
    go_ret
    exact ⟨ret_int Hr.out.symm, Below.refl _ _⟩
  have hmm := @run_makeMap Try.prog
  go_enter Try.func30, Try.ntmps30
  go_wp2
  clear hmm
  have Hmf := Lib.hid (MapF.made w Try.prog 9 4)
  have hb0 := below_new w (.map #[] 0)
  go_loopw [12] (fun i wr => ∃ (k : Nat) (f : Lit → Option Lit), k ≤ m.length ∧ i = .int .i64 k ∧ Hid ((List.range k).all (okAtS m) = true) ∧ Hid (MapF wr Try.prog 9 4 w.heap.size k f) ∧ Hid (∀ L, isTrue (f (.string L)) = (m.take k).any fun t => decide (t.name.data.toList = L)) ∧ Below w.heap.size w wr) (fun i _ => m.length - (intOf i).toNat)
  case atStart => exact ⟨0, _, Nat.zero_le _, rfl, Lib.hid rfl, Hmf, Lib.hid (fun L => by simp [isTrue]), hb0⟩
  case round =>
    clear Hmf hb0
    obtain ⟨k, f, hk, rfl, hok, hmf, hfx, hb⟩ := hrel
    by_cases hlt : k < m.length
    · obtain ⟨b, off, c, d, rfl, hS, hbw, hc, hd, hx⟩ := RSl.at2 (RSl.same (dSlot.stable _) (.of_below hb) h) k hlt
      obtain ⟨⟨rfl, rfl⟩, hn, hwf⟩ := hx.open
      have hat := okAtS_of hlt
      have hbad : okAtS m k = false → chkS m = 8 := chkS_bad h16 hlt
      have hkey : keyOf Try.prog 9 (.string m[k].name) = some (.string m[k].name.data.toList) := keyOf_string_mk Try.underlying9 (by unfold maxLen; omega)
      have hfk := hfx.out m[k].name.data.toList
      have hN := fun W => namedC m[k].name W hn
      have hlk := fun W (hW : Below wr.heap.size wr W) => (hmf.out.below hW).look_bool (string_keyed Try.underlying9) Try.underlying130 Try.underlying4 (by kernel_rfl) hkey
      have hfe : (m.take k).any (fun t => sameName t.name m[k].name) = isTrue (f (.string m[k].name.data.toList)) := by rw [hfk]; congr 1; funext t; exact sameName_eq _ _
      rw [hfe, fineS] at hat
      have hts : (m.take (k + 1)).any = (m.take (k + 1)).any := rfl
      have hnew : ∀ L, (m.take (k + 1)).any (fun t => decide (t.name.data.toList = L)) = ((m.take k).any (fun t => decide (t.name.data.toList = L)) || decide (m[k].name.data.toList = L)) := fun L => any_take_succ _ _ _ hlt
      have hrs : (List.range (k + 1)).all (okAtS m) = ((List.range k).all (okAtS m) && okAtS m k) := all_range_succ _ _
      have hwm := wf_i64 hwf
      have Hat := Lib.hid hat; have Hbad := Lib.hid hbad; have Hkey := Lib.hid hkey; have Hnew := Lib.hid hnew; have Hrs := Lib.hid hrs; have Hfk := Lib.hid hfk
      clear hat hbad hkey hfk hx hfe hts hnew hrs hwf
      have hlr := hb.size
      have hlw := hmf.out.lt
      cases hn1 : nameB m[k].name
      · rw [hn1] at hN
        have HN := Lib.hid hN; have Hn1 := Lib.hid hn1; clear hN hn1 hlk
        go_wp2_with (go_at_call 79; refine (HN.out _).mono ?_; rintro e w1 ⟨rfl, hb1⟩; have hq1 := (below_new _ _).trans (hb1.mono (by simp)))
        go_ret
        exact ⟨ret_int (Hbad.out (by rw [Hat.out, Hn1.out]; simp)).symm, hb.trans (hq1.mono hlr)⟩
      rw [hn1] at hN
      have HN := Lib.hid hN; have Hn1 := Lib.hid hn1; clear hN hn1
      cases hit : isTrue (f (.string m[k].name.data.toList))
      case true =>
        rw [hit] at hlk
        have Hlk := Lib.hid hlk; have Hit := Lib.hid hit; clear hlk hit
        go_wp2_with (go_at_call 79; refine (HN.out _).mono ?_; rintro e w1 ⟨rfl, hb1⟩; have hq1 := (below_new _ _).trans (hb1.mono (by simp)); obtain ⟨gx1, hcx1, hfx1⟩ := own_box hb1 (by simp) (box_new _ _); have hlt1 := size_of_box gx1; have hlk1 := Hlk.out _ hq1)
        go_ret
        exact ⟨ret_int (Hbad.out (by rw [Hat.out, Hit.out]; simp)).symm, hb.trans (hq1.mono hlr)⟩
      rw [hit] at hlk
      have Hlk := Lib.hid hlk; have Hit := Lib.hid hit; clear hlk hit
      by_cases m1 : m[k].many < 0
      · go_wp2_with (go_at_call 79; refine (HN.out _).mono ?_; rintro e w1 ⟨rfl, hb1⟩; have hq1 := (below_new _ _).trans (hb1.mono (by simp)); obtain ⟨gx1, hcx1, hfx1⟩ := own_box hb1 (by simp) (box_new _ _); have hlt1 := size_of_box gx1; have hlk1 := Hlk.out _ hq1)
        go_ret
        exact ⟨ret_int (Hbad.out (by rw [Hat.out, decide_eq_false (by omega)]; simp)).symm, hb.trans (hq1.mono hlr)⟩
      by_cases m2 : 64 < m[k].many
      · go_wp2_with (go_at_call 79; refine (HN.out _).mono ?_; rintro e w1 ⟨rfl, hb1⟩; have hq1 := (below_new _ _).trans (hb1.mono (by simp)); obtain ⟨gx1, hcx1, hfx1⟩ := own_box hb1 (by simp) (box_new _ _); have hlt1 := size_of_box gx1; have hlk1 := Hlk.out _ hq1)
        go_ret
        exact ⟨ret_int (Hbad.out (by rw [Hat.out, decide_eq_false (by omega)]; simp)).symm, hb.trans (hq1.mono hlr)⟩
      go_wp2_with (first
        | (go_at_call 79; refine (HN.out _).mono ?_; rintro e w1 ⟨rfl, hb1⟩; have hq1 := (below_new _ _).trans (hb1.mono (by simp)); obtain ⟨gx1, hcx1, hfx1⟩ := own_box hb1 (by simp) (box_new _ _); have hlt1 := size_of_box gx1; have hlk1 := Hlk.out _ hq1; have hl1 := hq1.size)
        | (at_mapUpdate; refine wpList_mapF _ rfl _ _ _ 130 rfl 9 4 (string_keyed Try.underlying9) Try.underlying130 w.heap.size k f rfl (hmf.out.below hq1) (by unfold maxLen; omega) _ _ _ rfl rfl Hkey.out trivial (.bool true) (plainElem_bool Try.underlying4 true) ?_; intro w6 hm6 hg6; have Hm6 := Lib.hid hm6; have Hg6 := Lib.hid hg6; clear hm6 hg6))
      refine ⟨⟨k + 1, _, by omega, by go_num, Lib.hid (by rw [Hrs.out, hok.out, Hat.out, Hn1.out, Hit.out, decide_eq_true (by omega)]; rfl), Hm6, Lib.hid (fun L => ?_), (hb.trans (hq1.mono hlr)).grown Hg6.out (by omega) (fun j hj => by cases hj; omega)⟩, by simp [intOf]; omega⟩
      rw [Hnew.out L]
      by_cases he : L = m[k].name.data.toList
      · subst he; rw [upd_same]; simp [isTrue]
      · rw [upd_other f (fun h => he (by injection h)), hfx.out L, decide_eq_false (fun h => he h.symm), Bool.or_false]
    · have hk' : k = m.length := by omega
      subst hk'
      go_wp2
      go_ret
      exact ⟨ret_int (by rw [chkS, if_neg h16, if_pos hok.out]), hb⟩

set_option maxHeartbeats 2000000 in
set_option maxRecDepth 100000 in
theorem refCheckS (S : Nat → Prop) (v : Value) (m : List Slot) (w : World) (h : RSl S 2 dSlot w v m) :
    Calls Try.prog 31 #[v] w fun e w' => e = .returned (.int .i64 (chkS m)) ∧ Below w.heap.size w w' := by
  obtain ⟨a, cap, rfl, h1, h2⟩ := RSl.shape h
  by_cases h16 : 16 < m.length
  · have hr : chkS m = 4 := by rw [chkS, if_pos h16]
    have Hr := Lib.hid hr; clear hr
    go_enter Try.func31, Try.ntmps31
    go_wp2
    go_ret
    exact ⟨ret_int Hr.out.symm, Below.refl _ _⟩
  go_enter Try.func31, Try.ntmps31
  go_wp2
  go_loopw [3] (fun i wr => ∃ k : Nat, k ≤ m.length ∧ i = .int .i64 k ∧ Hid ((List.range k).all (okAtS m) = true) ∧ Below w.heap.size w wr) (fun i _ => m.length - (intOf i).toNat)
  case atStart => exact ⟨0, Nat.zero_le _, rfl, Lib.hid rfl, Below.refl _ _⟩
  case round =>
    obtain ⟨k, hk, rfl, hok, hb⟩ := hrel
    by_cases hlt : k < m.length
    · obtain ⟨b, off, c, d, rfl, hS, hbw, hc0, hd0, hx⟩ := RSl.at2 h k hlt
      obtain ⟨⟨rfl, rfl⟩, hn, hwf⟩ := hx.open
      have hc := (Same.of_below (S := Any) hb).cell trivial hc0
      have hd := (Same.of_below (S := Any) hb).cell trivial hd0
      have hat := okAtS_of hlt
      rw [fineS] at hat
      have hbad : okAtS m k = false → chkS m = 8 := chkS_bad h16 hlt
      have hN := fun W => nameRef m[k].name W hn
      have hrs : (List.range (k + 1)).all (okAtS m) = ((List.range k).all (okAtS m) && okAtS m k) := all_range_succ _ _
      have hwm := wf_i64 hwf
      have Hat := Lib.hid hat; have Hbad := Lib.hid hbad; have Hrs := Lib.hid hrs
      clear hat hbad hx hrs hwf
      have hlr := hb.size
      cases hn1 : nameB m[k].name
      · rw [hn1] at hN
        have HN := Lib.hid hN; have Hn1 := Lib.hid hn1; clear hN hn1
        go_wp2_with (go_at_call 74; refine (HN.out _).mono ?_; rintro e w1 ⟨rfl, rfl⟩)
        go_ret
        exact ⟨ret_int (Hbad.out (by rw [Hat.out, Hn1.out]; simp)).symm, hb⟩
      rw [hn1] at hN
      have HN := Lib.hid hN; have Hn1 := Lib.hid hn1; clear hN hn1
      by_cases m1 : m[k].many < 0
      · go_wp2_with (go_at_call 74; refine (HN.out _).mono ?_; rintro e w1 ⟨rfl, rfl⟩)
        go_ret
        exact ⟨ret_int (Hbad.out (by rw [Hat.out, decide_eq_false (by omega)]; simp)).symm, hb⟩
      by_cases m2 : 64 < m[k].many
      · go_wp2_with (go_at_call 74; refine (HN.out _).mono ?_; rintro e w1 ⟨rfl, rfl⟩)
        go_ret
        exact ⟨ret_int (Hbad.out (by rw [Hat.out, decide_eq_false (by omega)]; simp)).symm, hb⟩
      go_wp2_with (go_at_call 74; refine (HN.out _).mono ?_; rintro e w1 ⟨rfl, rfl⟩)
      have hq1 := hb
      obtain ⟨wo, rfl⟩ : ∃ wo, wo = wr := ⟨_, rfl⟩
      go_loopw [4] (fun i wr => ∃ j : Nat, j ≤ k ∧ i = .int .i64 j ∧ Hid ((m.take j).any (fun t => sameName t.name m[k].name) = false) ∧ Below w.heap.size w wr) (fun i _ => k - (intOf i).toNat)
      case atStart => exact ⟨0, Nat.zero_le _, rfl, Lib.hid rfl, hq1⟩
      case round =>
        clear hc hd hq1
        obtain ⟨j, hj, rfl, hnm, hbj⟩ := hrel
        have hc := (Same.of_below (S := Any) hbj).cell trivial hc0
        by_cases hjk : j < k
        · obtain ⟨b2, off2, c2, d2, e2, -, hby, hcy0, hdy0, hy⟩ := RSl.at2 h j (by omega)
          simp only [Option.some.injEq, Addr.mk.injEq, and_true] at e2
          obtain ⟨rfl, rfl⟩ := e2
          obtain ⟨⟨rfl, rfl⟩, hny, -⟩ := hy.open
          have hcy := (Same.of_below (S := Any) hbj).cell trivial hcy0
          have hjl : j < m.length := by omega
          have hts : (m.take (j + 1)).any (fun t => sameName t.name m[k].name) = ((m.take j).any (fun t => sameName t.name m[k].name) || sameName m[j].name m[k].name) := any_take_succ _ _ _ hjl
          have hin : sameName m[j].name m[k].name = true → (m.take k).any (fun t => sameName t.name m[k].name) = true := fun he => List.any_eq_true.2 ⟨m[j], List.mem_take_iff_getElem.2 ⟨j, by omega, rfl⟩, he⟩
          have e1 := fun p => cell_ext (w := wr) hc p
          have e2 := fun p => cell_ext (w := wr) hcy p
          have Hts := Lib.hid hts; have Hin := Lib.hid hin
          clear hts hin hy hcy hcy0 hdy0 hc
          cases he : (m[j].name.toList == m[k].name.toList)
          · have He := Lib.hid he
            go_wp2
            refine wp_region_ext (by kernel_rfl) (by kernel_rfl) ?_
            repeat (go_big_quiet_step (fail))
            refine wpQuiet_nil ?_
            intro w5 hw'
            have hb5 : Below wr.heap.size wr w5 := by obtain ⟨p, rfl⟩ := hw'; exact below_ext wr p
            clear hw' he
            go_wp2
            exact ⟨⟨j + 1, by omega, by go_num, Lib.hid (by rw [Hts.out, hnm.out, sameName, He.out]; rfl), hbj.trans (hb5.mono hbj.size)⟩, by simp [intOf]; omega⟩
          · have He := Lib.hid he
            go_wp2
            refine wp_region_ext (by kernel_rfl) (by kernel_rfl) ?_
            repeat (go_big_quiet_step (fail))
            refine wpQuiet_nil ?_
            intro w5 hw'
            have hb5 : Below wr.heap.size wr w5 := by obtain ⟨p, rfl⟩ := hw'; exact below_ext wr p
            clear hw' he
            go_wp2
            go_ret
            exact ⟨ret_int (Hbad.out (by rw [Hat.out, Hin.out (by rw [sameName]; exact He.out)]; simp)).symm, hbj.trans (hb5.mono hbj.size)⟩
        · have hj' : j = k := by omega
          subst hj'
          go_wp2
          exact ⟨⟨j + 1, by omega, by go_num, Lib.hid (by rw [Hrs.out, hok.out, Hat.out, Hn1.out, hnm.out, decide_eq_true (by omega)]; rfl), hbj⟩, by simp [intOf]; omega⟩
    · have hk' : k = m.length := by omega
      subst hk'
      go_wp2
      go_ret
      exact ⟨ret_int (by rw [chkS, if_neg h16, if_pos hok.out]), hb⟩
end Go.Proofs.Ytkjgddcjhikdgaa
