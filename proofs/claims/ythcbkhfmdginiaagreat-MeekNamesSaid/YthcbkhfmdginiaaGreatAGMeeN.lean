/- Texts of one claim, put together: MeeN. -/
import Derived.Test.YthcbkhfmdginiaaGreatAGNam
import Derived.Test.YthcbkhfmdginiaaGreatAGMeeP

namespace Go.Proofs.YthcbkhfmdginiaaGreat

structure RelK (C : Nat) (perm : List Int) (K K2 : List Int) : Prop where
 len : K.length = C
 len2 : K2.length = C
 val : ∀ x : Int, 0 ≤ x → x < C → gI K2 (gI perm x) = gI K x
section
variable {C : Nat} {perm K K2 : List Int} {rows rows2 : List Row} {inn el : List Int}
theorem restM_ren (h : RelK C perm K K2) : ∀ {l : List Int} {r : Int}, (∀ x ∈ l, 0 ≤ x ∧ x < (C : Int)) → restM K2 r (l.map (gI perm)) = restM K r l
 | [], _, _ => rfl
 | c :: l, r, hl => by
  have hc := hl c List.mem_cons_self
  rw [List.map_cons, restM, restM, h.val c hc.1 hc.2]
  exact restM_ren h fun x hx => hl x (List.mem_cons_of_mem _ hx)
theorem partM_ren (hp : LotOf perm C) (h : RelK C perm K K2) {x : Int} (x0 : 0 ≤ x) (x1 : x < C) : ∀ {l : List Int} {r : Int}, (∀ x ∈ l, 0 ≤ x ∧ x < (C : Int)) → partM K2 (gI perm x) r (l.map (gI perm)) = partM K x r l
 | [], _, _ => rfl
 | c :: l, r, hl => by
  have hc := hl c List.mem_cons_self
  rw [List.map_cons, partM, partM, h.val c hc.1 hc.2, partM_ren hp h x0 x1 fun x hx => hl x (List.mem_cons_of_mem _ hx)]
  by_cases e : c = x
  ·rw [e, if_pos rfl, if_pos rfl]
  ·rw [if_neg e, if_neg fun q => e (gI_inj hp hc.1 hc.2 x0 x1 q)]
theorem hadM_ren (hp : LotOf perm C) (h : RelK C perm K K2) (hr : ∀ r ∈ rows, ∀ x ∈ r.marks, 0 ≤ x ∧ x < (C : Int)) (hP : List.Perm rows2 (rows.map (renRow perm))) {x : Int} (x0 : 0 ≤ x) (x1 : x < C) : hadM rows2 K2 (gI perm x) = hadM rows K x := by
 rw [hadM, sum_perm (hP.map _), List.map_map, hadM]
 congr 1
 apply List.map_congr_left
 intro r hm
 simp only [Function.comp_apply, renRow]
 rw [partM_ren hp h x0 x1 (hr r hm)]
theorem lostM_ren (h : RelK C perm K K2) (hr : ∀ r ∈ rows, ∀ x ∈ r.marks, 0 ≤ x ∧ x < (C : Int)) (hP : List.Perm rows2 (rows.map (renRow perm))) : lostM rows2 K2 = lostM rows K := by
 rw [lostM, sum_perm (hP.map _), List.map_map, lostM]
 congr 1
 apply List.map_congr_left
 intro r hm
 simp only [Function.comp_apply, renRow, List.length_map]
 rw [restM_ren h (hr r hm)]
theorem quoL_ren (h : RelK C perm K K2) (hr : ∀ r ∈ rows, ∀ x ∈ r.marks, 0 ≤ x ∧ x < (C : Int)) (hP : List.Perm rows2 (rows.map (renRow perm))) (seats : Nat) : quoL seats rows2 K2 = quoL seats rows K := by
 rw [quoL, quoL, lostM_ren h hr hP, markS_ren hP]
theorem hadMs_ren (hp : LotOf perm C) (h : RelK C perm K K2) (hr : ∀ r ∈ rows, ∀ x ∈ r.marks, 0 ≤ x ∧ x < (C : Int)) (hP : List.Perm rows2 (rows.map (renRow perm))) {x : Int} (x0 : 0 ≤ x) (x1 : x < C) : gI (hadMs C rows2 K2) (gI perm x) = gI (hadMs C rows K) x := by
 obtain ⟨g0, g1⟩ := gI_mem hp x0 x1
 rw [hadM_at ⟨g0, g1⟩, hadM_at ⟨x0, x1⟩, hadM_ren hp h hr hP x0 x1]
theorem reachB_ren (hp : LotOf perm C) (h : RelK C perm K K2) (hr : ∀ r ∈ rows, ∀ x ∈ r.marks, 0 ≤ x ∧ x < (C : Int)) (hP : List.Perm rows2 (rows.map (renRow perm))) (hi : ∀ x ∈ inn, 0 ≤ x ∧ x < (C : Int)) (seats : Nat) : reachB C seats rows2 (imgL perm C inn) K2 = reachB C seats rows inn K := by
 rw [reachB, reachB, quoL_ren h hr hP, Bool.eq_iff_iff, List.any_eq_true, List.any_eq_true]
 constructor
 ·rintro ⟨y, hy, hq⟩
  obtain ⟨-, x, hx, rfl⟩ := mem_img.1 hy
  rw [hadMs_ren hp h hr hP (hi x hx).1 (hi x hx).2] at hq
  exact ⟨x, hx, hq⟩
 ·rintro ⟨x, hx, hq⟩
  refine ⟨gI perm x, mem_img.2 ⟨gI_mem hp (hi x hx).1 (hi x hx).2, x, hx, rfl⟩, ?_⟩
  rw [hadMs_ren hp h hr hP (hi x hx).1 (hi x hx).2]
  exact hq
theorem aboveB_ren (hp : LotOf perm C) (h : RelK C perm K K2) (hr : ∀ r ∈ rows, ∀ x ∈ r.marks, 0 ≤ x ∧ x < (C : Int)) (hP : List.Perm rows2 (rows.map (renRow perm))) (he : ∀ x ∈ el, 0 ≤ x ∧ x < (C : Int)) (seats : Nat) : aboveB C seats rows2 (el.map (gI perm)) K2 = aboveB C seats rows el K := by
 rw [aboveB, aboveB, quoL_ren h hr hP, Bool.eq_iff_iff, List.any_eq_true, List.any_eq_true]
 constructor
 ·rintro ⟨y, hy, hq⟩
  obtain ⟨x, hx, rfl⟩ := List.mem_map.1 hy
  rw [hadMs_ren hp h hr hP (he x hx).1 (he x hx).2] at hq
  exact ⟨x, hx, hq⟩
 ·rintro ⟨x, hx, hq⟩
  refine ⟨gI perm x, List.mem_map_of_mem hx, ?_⟩
  rw [hadMs_ren hp h hr hP (he x hx).1 (he x hx).2]
  exact hq
theorem nextK_at {seats : Nat} {x : Int} (x0 : 0 ≤ x) (x1 : x < C) : gI (nextK C seats rows el K) x = if el.contains x && decide (gI (hadMs C rows K) x > quoL seats rows K) then keepM (gI K x) (gI (hadMs C rows K) x) (quoL seats rows K) else gI K x := by
 obtain ⟨n, rfl⟩ : ∃ n : Nat, x = n := ⟨x.toNat, by omega⟩
 rw [nextK, gI_fl (by omega)]
theorem nextK_ren (hp : LotOf perm C) (h : RelK C perm K K2) (hr : ∀ r ∈ rows, ∀ x ∈ r.marks, 0 ≤ x ∧ x < (C : Int)) (hP : List.Perm rows2 (rows.map (renRow perm))) (he : ∀ x ∈ el, 0 ≤ x ∧ x < (C : Int)) (seats : Nat) : RelK C perm (nextK C seats rows el K) (nextK C seats rows2 (el.map (gI perm)) K2) := by
 refine ⟨qae _ _, qae _ _, fun x x0 x1 => ?_⟩
 obtain ⟨g0, g1⟩ := gI_mem hp x0 x1
 have hc : (el.map (gI perm)).contains (gI perm x) = el.contains x := by
  rw [Bool.eq_iff_iff, List.contains_iff_mem, List.contains_iff_mem, img_in hp he x0 x1]
 rw [nextK_at g0 g1, nextK_at x0 x1, hc, hadMs_ren hp h hr hP x0 x1, quoL_ren h hr hP, h.val x x0 x1]
theorem convK_ren (hp : LotOf perm C) (hr : ∀ r ∈ rows, ∀ x ∈ r.marks, 0 ≤ x ∧ x < (C : Int)) (hP : List.Perm rows2 (rows.map (renRow perm))) (hi : ∀ x ∈ inn, 0 ≤ x ∧ x < (C : Int)) (he : ∀ x ∈ el, 0 ≤ x ∧ x < (C : Int)) (seats : Nat) : ∀ (n : Nat) {K K2 : List Int}, RelK C perm K K2 → RelK C perm (convK C seats rows inn el n K) (convK C seats rows2 (imgL perm C inn) (el.map (gI perm)) n K2)
 | 0, _, _, h => h
 | n + 1, K, K2, h => by
  rw [convK, convK, reachB_ren hp h hr hP hi, aboveB_ren hp h hr hP he]
  split
  ·exact h
  ·exact convK_ren hp hr hP hi he seats n (nextK_ren hp h hr hP he seats)
theorem convS_ren (hp : LotOf perm C) (hr : ∀ r ∈ rows, ∀ x ∈ r.marks, 0 ≤ x ∧ x < (C : Int)) (hP : List.Perm rows2 (rows.map (renRow perm))) (hi : ∀ x ∈ inn, 0 ≤ x ∧ x < (C : Int)) (hn : inn.Nodup) (he : ∀ x ∈ el, 0 ≤ x ∧ x < (C : Int)) (seats : Nat) (h : RelK C perm K K2) :
  RelK C perm (convS C seats rows K inn el) (convS C seats rows2 K2 (imgL perm C inn) (el.map (gI perm))) := by
 rw [convS, convS, img_length hp hi hn, List.length_map]
 split
 ·exact h
 ·exact convK_ren hp hr hP hi he seats 199 h
theorem gI_set {l : List Int} {x y : Int} (x0 : 0 ≤ x) (y0 : 0 ≤ y) (h : x < l.length) : gI (l.set x.toNat 0) y = if y = x then 0 else gI l y := by
 unfold gI
 rw [List.getD_eq_getElem?_getD, List.getD_eq_getElem?_getD, List.getElem?_set]
 by_cases e : y = x
 ·rw [if_pos e, if_pos (by rw [e]), if_pos (by omega)]; rfl
 ·rw [if_neg e, if_neg (by omega)]
theorem mee_ruleN (hp : LotOf perm C) (hr : ∀ r ∈ rows, ∀ x ∈ r.marks, 0 ≤ x ∧ x < (C : Int)) (hP : List.Perm rows2 (rows.map (renRow perm))) (seats : Nat) : RuleN C perm (RelK C perm) (meeR C seats rows) (meeR C seats rows2) where
 len := fun st inn el => ⟨qae _ _, qae _ _⟩
 had := fun h hi he hn x x0 x1 => hadMs_ren hp (convS_ren hp hr hP hi hn he seats h) hr hP x0 x1
 lost := fun h hi he hn => lostM_ren (convS_ren hp hr hP hi hn he seats h) hr hP
 reach := fun h hi he hn => reachB_ren hp (convS_ren hp hr hP hi hn he seats h) hr hP hi seats
 win := fun h hi he hn _ _ => convS_ren hp hr hP hi hn he seats h
 out := fun {st st2 inn el} h hi he hn x hx => by
  have h2 := convS_ren hp hr hP hi hn he seats h
  obtain ⟨x0, x1⟩ := hi x hx
  obtain ⟨g0, g1⟩ := gI_mem hp x0 x1
  refine ⟨(List.length_set ..).trans h2.len, (List.length_set ..).trans h2.len2, fun y y0 y1 => ?_⟩
  obtain ⟨k0, k1⟩ := gI_mem hp y0 y1
  show gI ((convS C seats rows2 st2 (imgL perm C inn) (el.map (gI perm))).set (gI perm x).toNat 0) (gI perm y) = gI ((convS C seats rows st inn el).set x.toNat 0) y
  rw [gI_set g0 k0 (by rw [h2.len2]; exact g1), gI_set x0 y0 (by rw [h2.len]; exact x1)]
  by_cases e : y = x
  ·rw [e, if_pos rfl, if_pos rfl]
  ·rw [if_neg e, if_neg fun q => e (gI_inj hp y0 y1 x0 x1 q), h2.val y y0 y1]
end
theorem mee_ren {c k : Int} {rows : List Row} {seats : Int} {lot perm : List Int} {C : Nat} (hC : c = C) (hp : LotOf perm C) (h : rankI ⟨c, k, rows⟩ seats lot = 0) :
  rankI ⟨c, k, renR k perm rows⟩ seats (namL perm lot) = 0 ∧ meeV ⟨c, k, renR k perm rows⟩ seats (namL perm lot) = renO perm (meeV ⟨c, k, rows⟩ seats lot) := by
 have h2 : rankI ⟨c, k, renR k perm rows⟩ seats (namL perm lot) = 0 := (single_ren (r := 3) hC hp h).1
 refine ⟨h2, ?_⟩
 obtain ⟨C', sn, hF⟩ := rankF h
 have hCC : C' = C := by have := hF.cands; simp only at this; omega
 subst hCC
 have hk : k = 1 := hF.kind
 subst hk
 have hsn := hF.seats
 subst hsn
 rw [meeV, if_pos h2, meeV, if_pos h]
 simp only [Int.toNat_natCast]
 have hnl : namL perm lot = lot.map (gI perm) := namL_in hp fun x hx => (hF.lot.all x).1 hx
 have hv := chkP_zero.1 hF.chk
 have hP := renR_perm hp (rows := rows) (fun r hr => (hF.marks r hr).2) (asc_pair hv.asc)
 have hcT : c.toNat = C' := by omega
 have hrel : RelK C' perm (List.replicate C' 1000000000) (List.replicate C' 1000000000) := by
  refine ⟨List.length_replicate, List.length_replicate, fun x x0 x1 => ?_⟩
  have : ∀ y : Int, 0 ≤ y → y < C' → gI (List.replicate C' 1000000000) y = 1000000000 := fun y y0 y1 => by
   obtain ⟨n, rfl⟩ : ∃ n : Nat, y = n := ⟨y.toNat, by omega⟩
   rw [gI_at (by rw [List.length_replicate]; omega), List.getElem_replicate]
  obtain ⟨g0, g1⟩ := gI_mem hp x0 x1
  rw [this _ g0 g1, this _ x0 x1]
 have hR := run_ren hp hF.lot hF.s.2 (mee_ruleN hp (fun r hr => (hF.marks r hr).2) hP sn) hrel C'
 rw [hnl]
 unfold meeS
 simp only [hcT]
 rw [renO]
 have hI := run_inv (R := meeR C' sn rows) (s0 := List.replicate C' 1000000000) hF.lot hF.s.2 C'
 rw [hR.el, hR.rounds, hR.ties, namL_in hp hI.els]
end Go.Proofs.YthcbkhfmdginiaaGreat
