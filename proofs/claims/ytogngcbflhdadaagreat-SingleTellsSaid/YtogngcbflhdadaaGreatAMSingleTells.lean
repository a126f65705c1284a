/- The law SingleTells returns true whatever the input, and every argument reads behind the call as it read before. No condition. -/
import Derived.Test.YtogngcbflhdadaaGreatAGSam
import Derived.Test.YtogngcbflhdadaaGreatAGRul
import Derived.Test.YtogngcbflhdadaaGreatRows
import Derived.WalkKit
import Derived.ProofKit
import Derived.OpenShut
import Derived.ShutString
import Derived.ChangeOld
import Derived.Below

/- The law SingleTells: its walk (printed by gentells11.py). -/
namespace Go.Proofs.YtogngcbflhdadaaGreat
open Go Go.RowKit Go.Shelf

theorem r11Plurality (S T : Nat → Prop) (u v : Value) (p : Prof) (seats : Int) (lot : List Int) (w : World) (h : VProf S w u p) (hv : RInts T w v lot) : Calls Tryz.prog 15 #[u, .int .i64 seats, v] w (GivesSI 0 p seats lot w) := by
  by_cases h0 : singleI 0 p seats lot = 0
  · exact r11Plurality_ok S T u v p seats lot w h hv h0
  · exact r11Plurality_bad S T u v p seats lot w h hv h0
theorem r11Approval (S T : Nat → Prop) (u v : Value) (p : Prof) (seats : Int) (lot : List Int) (w : World) (h : VProf S w u p) (hv : RInts T w v lot) : Calls Tryz.prog 17 #[u, .int .i64 seats, v] w (GivesSI 1 p seats lot w) := by
  by_cases h0 : singleI 1 p seats lot = 0
  · exact r11Approval_ok S T u v p seats lot w h hv h0
  · exact r11Approval_bad S T u v p seats lot w h hv h0
theorem r11Score (S T : Nat → Prop) (u v : Value) (p : Prof) (seats : Int) (lot : List Int) (w : World) (h : VProf S w u p) (hv : RInts T w v lot) : Calls Tryz.prog 19 #[u, .int .i64 seats, v] w (GivesSI 2 p seats lot w) := by
  by_cases h0 : singleI 2 p seats lot = 0
  · exact r11Score_ok S T u v p seats lot w h hv h0
  · exact r11Score_bad S T u v p seats lot w h hv h0
theorem r11Borda (S T : Nat → Prop) (u v : Value) (p : Prof) (seats : Int) (lot : List Int) (w : World) (h : VProf S w u p) (hv : RInts T w v lot) : Calls Tryz.prog 21 #[u, .int .i64 seats, v] w (GivesSI 3 p seats lot w) := by
  by_cases h0 : singleI 3 p seats lot = 0
  · exact r11Borda_ok S T u v p seats lot w h hv h0
  · exact r11Borda_bad S T u v p seats lot w h hv h0
theorem VProf.open {S : Nat → Prop} {w : World} {v : Value} {p : Prof} (h : VProf S w v p) : ∃ a m c, v = .agg #[.int .i64 p.cands, .int .u8 p.kind, .slice a m c] := by
  obtain ⟨a, c, rfl, -⟩ := h; exact ⟨a, _, c, rfl⟩
theorem GivesP.open {p : Prof} {w : World} {e : Ending} {w' : World} (h : GivesP p w e w') : ∃ a m c, e = .returned (.agg #[.int .i64 p.cands, .int .u8 p.kind, .slice a m c]) ∧ VProf Any w' (.agg #[.int .i64 p.cands, .int .u8 p.kind, .slice a m c]) p ∧ Below w.heap.size w w' := by
  obtain ⟨v, rfl, h1, h2⟩ := h
  obtain ⟨a, m, c, rfl⟩ := h1.open
  exact ⟨a, m, c, rfl, h1.mono fun _ _ => trivial, h2⟩
/-- An empty row and what is appended to it. -/
theorem own_empty (W : World) : Own W.heap.size 3 1 (dInt .i64) (W.alloc (.cells #[] 3)) (.slice (some ⟨W.heap.size, 0, none⟩) 0 0) ([] : List Int) := Own.made _ _ _ _ W #[] 0 (Nat.le_refl _) (by simp [maxLen]) rfl
theorem copy_done {W W3 : World} {u v : Value} {xs : List Int} (_ : RInts Any W u xs) (hl : xs.length ≤ 1000000) (hg : (W.alloc (.cells #[] 3)).grownBy W3 (Value.slice (some ⟨W.heap.size, 0, none⟩) 0 0).ownBlock) (ho : Same (Cut Any W.heap.size) (W.alloc (.cells #[] 3)) W3 → Own W.heap.size 3 1 (dInt .i64) W3 v ([] ++ xs)) : RInts Any W3 v xs ∧ Below W.heap.size W W3 := by
  have hb : Below W.heap.size W W3 := (below_new W _).grown hg (by simp) (fun k e => by simp [Value.ownBlock] at e; omega)
  have h1 := ho (fun b hb' hs => hg.block b hb' (fun e => by have := hs.2; simp [Value.ownBlock] at e; omega))
  rw [List.nil_append] at h1
  exact ⟨RSl.mono (fun _ _ _ h => h) (fun _ _ => trivial) (Own.rsl h1 (by omega)), hb⟩
set_option maxHeartbeats 8000000 in
set_option maxRecDepth 100000 in
theorem law_stells (u v : Value) (p : Prof) (seats : Int) (lot : List Int) (w : World) (h : VProf Any w u p) (_ : (Lit.int .i64 seats).wf = true) (hv : RInts Any w v lot) :
    Calls Tryz.prog 3 #[u, .int .i64 seats, v] w fun e w' => e = .returned (.bool true) ∧ Below w.heap.size w w' := by
  have h1 := h
  obtain ⟨a, m, c, rfl⟩ := h.open
  obtain ⟨a2, m2, c2, rfl⟩ := RSl.slice hv
  obtain ⟨W0, hW0⟩ : ∃ W0, W0 = w.alloc (.cells #[.int .i64 p.cands, .int .u8 p.kind, .slice a m c] 24) := ⟨_, rfl⟩
  have hb0 : Below w.heap.size w W0 := by rw [hW0]; exact below_new w _
  have hg0 : W0.heap[w.heap.size]? = some (.cells #[.int .i64 p.cands, .int .u8 p.kind, .slice a m c] 24 (0, 0)) := by rw [hW0]; exact box_new w _
  have hP := h1.same (.of_below hb0)
  have hL := hv.same (.of_below hb0)
  have hGr := r11Great Any Any _ _ p lot W0 hP hL
  have hTw := fun (W : World) (hW : Below W0.heap.size W0 W) (k1 : p.rows.length ≤ 140) (k2 : ∀ r ∈ p.rows, r.marks.length ≤ 60) => (r09Twin Any _ p W (hP.same (.of_below hW)) k1 k2).mono fun e w' hh => GivesP.open hh
  have hLo := fun (W : World) (hW : Below W0.heap.size W0 W) => (hL.same (.of_below hW)).cut
  have hA0 := fun (W : World) (hW : Below W0.heap.size W0 W) (k : lot.length ≤ 60) => (sinPlurality Any Any _ _ p seats lot W (hP.same (.of_below hW)) (hL.same (.of_below hW)) (by omega)).mono fun e w' hh => GivesSI.open hh
  have hR0 := fun (W : World) (hW : Below W0.heap.size W0 W) => (r11Plurality Any Any _ _ p seats lot W (hP.same (.of_below hW)) (hL.same (.of_below hW))).mono fun e w' hh => GivesSI.open hh
  obtain ⟨I0, hI0⟩ : ∃ I, singleI 0 p seats lot = I := ⟨_, rfl⟩
  obtain ⟨O0, hO0⟩ : ∃ O, singleV 0 p seats lot = O := ⟨_, rfl⟩
  simp only [hI0, hO0] at hA0 hR0
  have hi0 : (I0 != I0) = false := by simp
  have hA1 := fun (W : World) (hW : Below W0.heap.size W0 W) (k : lot.length ≤ 60) => (sinApproval Any Any _ _ p seats lot W (hP.same (.of_below hW)) (hL.same (.of_below hW)) (by omega)).mono fun e w' hh => GivesSI.open hh
  have hR1 := fun (W : World) (hW : Below W0.heap.size W0 W) => (r11Approval Any Any _ _ p seats lot W (hP.same (.of_below hW)) (hL.same (.of_below hW))).mono fun e w' hh => GivesSI.open hh
  obtain ⟨I1, hI1⟩ : ∃ I, singleI 1 p seats lot = I := ⟨_, rfl⟩
  obtain ⟨O1, hO1⟩ : ∃ O, singleV 1 p seats lot = O := ⟨_, rfl⟩
  simp only [hI1, hO1] at hA1 hR1
  have hi1 : (I1 != I1) = false := by simp
  have hA2 := fun (W : World) (hW : Below W0.heap.size W0 W) (k : lot.length ≤ 60) => (sinScore Any Any _ _ p seats lot W (hP.same (.of_below hW)) (hL.same (.of_below hW)) (by omega)).mono fun e w' hh => GivesSI.open hh
  have hR2 := fun (W : World) (hW : Below W0.heap.size W0 W) => (r11Score Any Any _ _ p seats lot W (hP.same (.of_below hW)) (hL.same (.of_below hW))).mono fun e w' hh => GivesSI.open hh
  obtain ⟨I2, hI2⟩ : ∃ I, singleI 2 p seats lot = I := ⟨_, rfl⟩
  obtain ⟨O2, hO2⟩ : ∃ O, singleV 2 p seats lot = O := ⟨_, rfl⟩
  simp only [hI2, hO2] at hA2 hR2
  have hi2 : (I2 != I2) = false := by simp
  have hA3 := fun (W : World) (hW : Below W0.heap.size W0 W) (k : lot.length ≤ 60) => (sinBorda Any Any _ _ p seats lot W (hP.same (.of_below hW)) (hL.same (.of_below hW)) (by omega)).mono fun e w' hh => GivesSI.open hh
  have hR3 := fun (W : World) (hW : Below W0.heap.size W0 W) => (r11Borda Any Any _ _ p seats lot W (hP.same (.of_below hW)) (hL.same (.of_below hW))).mono fun e w' hh => GivesSI.open hh
  obtain ⟨I3, hI3⟩ : ∃ I, singleI 3 p seats lot = I := ⟨_, rfl⟩
  obtain ⟨O3, hO3⟩ : ∃ O, singleV 3 p seats lot = O := ⟨_, rfl⟩
  simp only [hI3, hO3] at hA3 hR3
  have hi3 : (I3 != I3) = false := by simp
  have hS := fun (W : World) (x y : Value) (hx : VProf Any W x p) (hy : VProf Any W y p) => r09Same_eq Any Any x y p W hx hy
  have hPv := fun (W : World) (hW : Below W0.heap.size W0 W) => hP.same (S := Any) (.of_below hW)
  obtain ⟨cc, hcc⟩ : ∃ x, p.cands = x := ⟨_, rfl⟩
  obtain ⟨kk, hkk⟩ : ∃ x, p.kind = x := ⟨_, rfl⟩
  simp only [hcc, hkk] at hg0 hW0 hGr hTw hPv hA0 hA1 hA2 hA3 hR0 hR1 hR2 hR3 ⊢
  rw [hW0] at hGr
  have HGr := Lib.hid hGr; have HTw := Lib.hid hTw; have HLo := Lib.hid hLo; have HSm := Lib.hid hS; have HPv := Lib.hid hPv
  have HA0 := Lib.hid hA0; have HR0 := Lib.hid hR0
  have HA1 := Lib.hid hA1; have HR1 := Lib.hid hR1
  have HA2 := Lib.hid hA2; have HR2 := Lib.hid hR2
  have HA3 := Lib.hid hA3; have HR3 := Lib.hid hR3
  have HW0 := Lib.hid hW0; have G0 := Lib.hid hg0; have Hb0 := Lib.hid hb0
  have st0 := Lib.hid True.intro
  clear hGr hTw hLo hS hPv hA0 hA1 hA2 hA3 hR0 hR1 hR2 hR3 hI0 hI1 hI2 hI3 hO0 hO1 hO2 hO3 hP hL h h1 hv hW0 hg0 hb0 hcc hkk
  go_enter Tryz.func3, Tryz.ntmps3
  go_wp2_with (go_at_call 11; refine HGr.out.mono ?_; rintro e w1 ⟨G, rfl, hG, hb⟩; rw [← HW0.out] at hb; have q0 := hb; have hsz := q0.size; obtain ⟨pa1, pb1, pc1, pl1⟩ := box3 G0.out q0; have HG := Lib.hid hG; clear hb hG; cases G)
  · obtain ⟨k140, k60, kl60⟩ := HG.out (by first | rfl | trivial)
    have st1 := Lib.hid True.intro
    clear st0 HG
    go_wp2_with (first
    | (have := st17; go_at_call 12; clear st17; refine (wakes11 _).mono ?_; rintro e w18 ⟨rfl, hb⟩; have C18 := Lib.hid (bel_st (B := w17.heap.size) (w := w17) (by go_grown) hb (by go_size)); replace q0 := bt q0 C18.out; replace hsz := q0.size; skip; clear hb; have st18 := Lib.hid True.intro; clear this)
    | (have := st16; go_at_call 24; clear st16; refine (ints_eq Any Any _ _ lot _ (RSl.mono (fun _ _ _ h => h) (fun _ _ => trivial) (HLo.out _ q0)) (HL3.out.same (.of_below (bt C4.out (bt C5.out (bt C6.out (bt C7.out (bt C8.out (bt C9.out (bt C10.out (bt C11.out (bt C12.out (bt C13.out (bt C14.out (bt C15.out C16.out))))))))))))))).mono ?_; rintro e w17 ⟨rfl, hb⟩; have C17 := Lib.hid (bel_st (B := w16.heap.size) (w := w16) (by go_grown) hb (by go_size)); replace q0 := bt q0 C17.out; replace hsz := q0.size; skip; clear hb; have st17 := Lib.hid True.intro; clear this)
    | (have := st15; go_at_call 23; clear st15; refine (HSm.out _ _ _ (HPv.out _ q0) (HT.out.same (.of_below (bt C3.out (bt C4.out (bt C5.out (bt C6.out (bt C7.out (bt C8.out (bt C9.out (bt C10.out (bt C11.out (bt C12.out (bt C13.out (bt C14.out C15.out))))))))))))))).mono ?_; rintro e w16 ⟨rfl, hb⟩; have C16 := Lib.hid (bel_st (B := w15.heap.size) (w := w15) (by go_grown) hb (by go_size)); replace q0 := bt q0 C16.out; replace hsz := q0.size; skip; clear hb; have st16 := Lib.hid True.intro; clear this)
    | (have := st14; go_at_call 22; clear st14; have q1 := (bt C11.out (bt C12.out (bt C13.out C14.out))); have q2 := (bt C12.out (bt C13.out C14.out)); have z1 := q1.size; have z2 := q2.size; refine (r11Same_eq Any Any _ _ O3 _ (HV10.out.same (.of_below (by go_grown))) (HV11.out.same (.of_below (by go_grown)))).mono ?_; rintro e w15 ⟨rfl, hb⟩; have C15 := Lib.hid (bel_st (B := w14.heap.size) (w := w14) (by go_grown) hb (by go_size)); replace q0 := bt q0 C15.out; replace hsz := q0.size; clear q1 q2 z1 z2; clear x10a x10b x10c x10l x11a x11b x11c x11l; obtain ⟨pa15, pb15, pc15, pl15⟩ := box3 G0.out q0; obtain ⟨t1, t2, t3, t4⟩ := box3 GB3.out (bt C5.out (bt C6.out (bt C7.out (bt C8.out (bt C9.out (bt C10.out (bt C11.out (bt C12.out (bt C13.out (bt C14.out C15.out)))))))))); clear hb; have st15 := Lib.hid True.intro; clear this)
    | (have := st13; go_at_call 22; clear st13; have q1 := (bt C9.out (bt C10.out (bt C11.out (bt C12.out C13.out)))); have q2 := (bt C10.out (bt C11.out (bt C12.out C13.out))); have z1 := q1.size; have z2 := q2.size; refine (r11Same_eq Any Any _ _ O2 _ (HV8.out.same (.of_below (by go_grown))) (HV9.out.same (.of_below (by go_grown)))).mono ?_; rintro e w14 ⟨rfl, hb⟩; have C14 := Lib.hid (bel_st (B := w13.heap.size) (w := w13) (by go_grown) hb (by go_size)); replace q0 := bt q0 C14.out; replace hsz := q0.size; clear q1 q2 z1 z2; clear x8a x8b x8c x8l x9a x9b x9c x9l; obtain ⟨x10a, x10b, x10c, x10l⟩ := box3 GB10.out (bt C12.out (bt C13.out C14.out)); obtain ⟨x11a, x11b, x11c, x11l⟩ := box3 GB11.out (bt C13.out C14.out); clear hb; have st14 := Lib.hid True.intro; clear this)
    | (have := st12; go_at_call 22; clear st12; have q1 := (bt C7.out (bt C8.out (bt C9.out (bt C10.out (bt C11.out C12.out))))); have q2 := (bt C8.out (bt C9.out (bt C10.out (bt C11.out C12.out)))); have z1 := q1.size; have z2 := q2.size; refine (r11Same_eq Any Any _ _ O1 _ (HV6.out.same (.of_below (by go_grown))) (HV7.out.same (.of_below (by go_grown)))).mono ?_; rintro e w13 ⟨rfl, hb⟩; have C13 := Lib.hid (bel_st (B := w12.heap.size) (w := w12) (by go_grown) hb (by go_size)); replace q0 := bt q0 C13.out; replace hsz := q0.size; clear q1 q2 z1 z2; clear x6a x6b x6c x6l x7a x7b x7c x7l; obtain ⟨x8a, x8b, x8c, x8l⟩ := box3 GB8.out (bt C10.out (bt C11.out (bt C12.out C13.out))); obtain ⟨x9a, x9b, x9c, x9l⟩ := box3 GB9.out (bt C11.out (bt C12.out C13.out)); clear hb; have st13 := Lib.hid True.intro; clear this)
    | (have := st11; go_at_call 22; clear st11; have q1 := (bt C5.out (bt C6.out (bt C7.out (bt C8.out (bt C9.out (bt C10.out C11.out)))))); have q2 := (bt C6.out (bt C7.out (bt C8.out (bt C9.out (bt C10.out C11.out))))); have z1 := q1.size; have z2 := q2.size; refine (r11Same_eq Any Any _ _ O0 _ (HV4.out.same (.of_below (by go_grown))) (HV5.out.same (.of_below (by go_grown)))).mono ?_; rintro e w12 ⟨rfl, hb⟩; have C12 := Lib.hid (bel_st (B := w11.heap.size) (w := w11) (by go_grown) hb (by go_size)); replace q0 := bt q0 C12.out; replace hsz := q0.size; clear q1 q2 z1 z2; have GB11 := Lib.hid (show w12.heap[w11.heap.size]? = some (.cells #[.slice b111 m111 c111, .slice b112 m112 c112, .slice b113 m113 c113] 32 (0, 0)) from lay_at (w := w11) (os := [.cells #[.slice b111 m111 c111, .slice b112 m112 c112, .slice b113 m113 c113] 32]) hb 0 rfl); clear x4a x4b x4c x4l x5a x5b x5c x5l; obtain ⟨x6a, x6b, x6c, x6l⟩ := box3 GB6.out (bt C8.out (bt C9.out (bt C10.out (bt C11.out C12.out)))); obtain ⟨x7a, x7b, x7c, x7l⟩ := box3 GB7.out (bt C9.out (bt C10.out (bt C11.out C12.out))); clear hb; have st12 := Lib.hid True.intro; clear this)
    | (have := st10; go_at_call 21; clear st10; refine (HR3.out _ (by go_grown)).mono ?_; rintro e w11 ⟨b111, m111, c111, b112, m112, c112, b113, m113, c113, rfl, kv, hb⟩; have C11 := Lib.hid (bel_st (B := w10.heap.size) (w := w10) (by go_grown) hb (by go_size)); replace q0 := bt q0 C11.out; replace hsz := q0.size; have GB10 := Lib.hid (show w11.heap[w10.heap.size]? = some (.cells #[.slice b101 m101 c101, .slice b102 m102 c102, .slice b103 m103 c103] 32 (0, 0)) from lay_at (w := w10) (os := [.cells #[.slice b101 m101 c101, .slice b102 m102 c102, .slice b103 m103 c103] 32]) hb 0 rfl); have HV11 := Lib.hid (kv.mono (fun _ _ => trivial) : VOutc Any w11 (.agg #[.slice b111 m111 c111, .slice b112 m112 c112, .slice b113 m113 c113]) O3); clear kv; obtain ⟨x4a, x4b, x4c, x4l⟩ := box3 GB4.out (bt C6.out (bt C7.out (bt C8.out (bt C9.out (bt C10.out C11.out))))); obtain ⟨x5a, x5b, x5c, x5l⟩ := box3 GB5.out (bt C7.out (bt C8.out (bt C9.out (bt C10.out C11.out)))); clear hb; have st11 := Lib.hid True.intro; clear this)
    | (have := st9; go_at_call 20; clear st9; refine (HA3.out _ (by go_grown) kl60).mono ?_; rintro e w10 ⟨b101, m101, c101, b102, m102, c102, b103, m103, c103, rfl, kv, hb⟩; have C10 := Lib.hid (bel_st (B := w9.heap.size) (w := w9) (by go_grown) hb (by go_size)); replace q0 := bt q0 C10.out; replace hsz := q0.size; have GB9 := Lib.hid (show w10.heap[w9.heap.size]? = some (.cells #[.slice b91 m91 c91, .slice b92 m92 c92, .slice b93 m93 c93] 32 (0, 0)) from lay_at (w := w9) (os := [.cells #[.slice b91 m91 c91, .slice b92 m92 c92, .slice b93 m93 c93] 32]) hb 0 rfl); have HV10 := Lib.hid (kv.mono (fun _ _ => trivial) : VOutc Any w10 (.agg #[.slice b101 m101 c101, .slice b102 m102 c102, .slice b103 m103 c103]) O3); clear kv; obtain ⟨pa10, pb10, pc10, pl10⟩ := box3 G0.out q0; clear hb; have st10 := Lib.hid True.intro; clear this)
    | (have := st8; go_at_call 19; clear st8; refine (HR2.out _ (by go_grown)).mono ?_; rintro e w9 ⟨b91, m91, c91, b92, m92, c92, b93, m93, c93, rfl, kv, hb⟩; have C9 := Lib.hid (bel_st (B := w8.heap.size) (w := w8) (by go_grown) hb (by go_size)); replace q0 := bt q0 C9.out; replace hsz := q0.size; have GB8 := Lib.hid (show w9.heap[w8.heap.size]? = some (.cells #[.slice b81 m81 c81, .slice b82 m82 c82, .slice b83 m83 c83] 32 (0, 0)) from lay_at (w := w8) (os := [.cells #[.slice b81 m81 c81, .slice b82 m82 c82, .slice b83 m83 c83] 32]) hb 0 rfl); have HV9 := Lib.hid (kv.mono (fun _ _ => trivial) : VOutc Any w9 (.agg #[.slice b91 m91 c91, .slice b92 m92 c92, .slice b93 m93 c93]) O2); clear kv; obtain ⟨pa9, pb9, pc9, pl9⟩ := box3 G0.out q0; clear hb; have st9 := Lib.hid True.intro; clear this)
    | (have := st7; go_at_call 18; clear st7; refine (HA2.out _ (by go_grown) kl60).mono ?_; rintro e w8 ⟨b81, m81, c81, b82, m82, c82, b83, m83, c83, rfl, kv, hb⟩; have C8 := Lib.hid (bel_st (B := w7.heap.size) (w := w7) (by go_grown) hb (by go_size)); replace q0 := bt q0 C8.out; replace hsz := q0.size; have GB7 := Lib.hid (show w8.heap[w7.heap.size]? = some (.cells #[.slice b71 m71 c71, .slice b72 m72 c72, .slice b73 m73 c73] 32 (0, 0)) from lay_at (w := w7) (os := [.cells #[.slice b71 m71 c71, .slice b72 m72 c72, .slice b73 m73 c73] 32]) hb 0 rfl); have HV8 := Lib.hid (kv.mono (fun _ _ => trivial) : VOutc Any w8 (.agg #[.slice b81 m81 c81, .slice b82 m82 c82, .slice b83 m83 c83]) O2); clear kv; obtain ⟨pa8, pb8, pc8, pl8⟩ := box3 G0.out q0; clear hb; have st8 := Lib.hid True.intro; clear this)
    | (have := st6; go_at_call 17; clear st6; refine (HR1.out _ (by go_grown)).mono ?_; rintro e w7 ⟨b71, m71, c71, b72, m72, c72, b73, m73, c73, rfl, kv, hb⟩; have C7 := Lib.hid (bel_st (B := w6.heap.size) (w := w6) (by go_grown) hb (by go_size)); replace q0 := bt q0 C7.out; replace hsz := q0.size; have GB6 := Lib.hid (show w7.heap[w6.heap.size]? = some (.cells #[.slice b61 m61 c61, .slice b62 m62 c62, .slice b63 m63 c63] 32 (0, 0)) from lay_at (w := w6) (os := [.cells #[.slice b61 m61 c61, .slice b62 m62 c62, .slice b63 m63 c63] 32]) hb 0 rfl); have HV7 := Lib.hid (kv.mono (fun _ _ => trivial) : VOutc Any w7 (.agg #[.slice b71 m71 c71, .slice b72 m72 c72, .slice b73 m73 c73]) O1); clear kv; obtain ⟨pa7, pb7, pc7, pl7⟩ := box3 G0.out q0; clear hb; have st7 := Lib.hid True.intro; clear this)
    | (have := st5; go_at_call 16; clear st5; refine (HA1.out _ (by go_grown) kl60).mono ?_; rintro e w6 ⟨b61, m61, c61, b62, m62, c62, b63, m63, c63, rfl, kv, hb⟩; have C6 := Lib.hid (bel_st (B := w5.heap.size) (w := w5) (by go_grown) hb (by go_size)); replace q0 := bt q0 C6.out; replace hsz := q0.size; have GB5 := Lib.hid (show w6.heap[w5.heap.size]? = some (.cells #[.slice b51 m51 c51, .slice b52 m52 c52, .slice b53 m53 c53] 32 (0, 0)) from lay_at (w := w5) (os := [.cells #[.slice b51 m51 c51, .slice b52 m52 c52, .slice b53 m53 c53] 32]) hb 0 rfl); have HV6 := Lib.hid (kv.mono (fun _ _ => trivial) : VOutc Any w6 (.agg #[.slice b61 m61 c61, .slice b62 m62 c62, .slice b63 m63 c63]) O1); clear kv; obtain ⟨pa6, pb6, pc6, pl6⟩ := box3 G0.out q0; clear hb; have st6 := Lib.hid True.intro; clear this)
    | (have := st4; go_at_call 15; clear st4; refine (HR0.out _ (by go_grown)).mono ?_; rintro e w5 ⟨b51, m51, c51, b52, m52, c52, b53, m53, c53, rfl, kv, hb⟩; have C5 := Lib.hid (bel_st (B := w4.heap.size) (w := w4) (by go_grown) hb (by go_size)); replace q0 := bt q0 C5.out; replace hsz := q0.size; have GB4 := Lib.hid (show w5.heap[w4.heap.size]? = some (.cells #[.slice b41 m41 c41, .slice b42 m42 c42, .slice b43 m43 c43] 32 (0, 0)) from lay_at (w := w4) (os := [.cells #[.slice b41 m41 c41, .slice b42 m42 c42, .slice b43 m43 c43] 32]) hb 0 rfl); have HV5 := Lib.hid (kv.mono (fun _ _ => trivial) : VOutc Any w5 (.agg #[.slice b51 m51 c51, .slice b52 m52 c52, .slice b53 m53 c53]) O0); clear kv; obtain ⟨pa5, pb5, pc5, pl5⟩ := box3 G0.out q0; clear hb; have st5 := Lib.hid True.intro; clear this)
    | (have := st3; go_at_call 14; clear st3; refine (HA0.out _ (by go_grown) kl60).mono ?_; rintro e w4 ⟨b41, m41, c41, b42, m42, c42, b43, m43, c43, rfl, kv, hb⟩; have C4 := Lib.hid (bel_st (B := w3.heap.size) (w := w3) (by go_grown) hb (by go_size)); replace q0 := bt q0 C4.out; replace hsz := q0.size; have GB3 := Lib.hid (show w4.heap[w3.heap.size]? = some (.cells #[.int .i64 cc, .int .u8 kk, .slice ta tm tc] 24 (0, 0)) from lay_at (w := w3) (os := [.cells #[.int .i64 cc, .int .u8 kk, .slice ta tm tc] 24]) hb 0 rfl); have HV4 := Lib.hid (kv.mono (fun _ _ => trivial) : VOutc Any w4 (.agg #[.slice b41 m41 c41, .slice b42 m42 c42, .slice b43 m43 c43]) O0); clear kv; obtain ⟨pa4, pb4, pc4, pl4⟩ := box3 G0.out q0; clear hb; have st4 := Lib.hid True.intro; clear this)
    | (have := st2; at_builtin; clear st2; go_must (refine wpList_appV _ Tryz.infoInt rfl rfl Tryz.underlying25 ⟨rfl, by omega, by omega⟩ (dInt.one _) (dInt.stable (Cut Any w2.heap.size) .i64) w2.heap.size (own_empty w2) rfl (HLq.out.same (.of_below (below_new w2 _))) rfl (by simp; omega) (by simp) ?_); intro a3 n3 c3 w3 hgr hat ho; obtain ⟨kl, kb⟩ := copy_done (RSl.mono (fun _ _ _ h => h) (fun _ _ => trivial) HLq.out) (by omega) hgr ho; have HL3 := Lib.hid (show RInts Any w3 (.slice a3 n3 c3) lot from kl); have C3 := Lib.hid kb; replace q0 := bt q0 C3.out; replace hsz := q0.size; obtain ⟨pa3, pb3, pc3, pl3⟩ := box3 G0.out q0; clear kl kb hgr hat ho; have st3 := Lib.hid True.intro; clear this)
    | (have := st1; go_at_call 13; clear st1; refine (HTw.out _ q0 k140 k60).mono ?_; rintro e w2 ⟨ta, tm, tc, rfl, kv, hb⟩; have C2 := Lib.hid (bel_st (B := w1.heap.size) (w := w1) (by go_grown) hb (by go_size)); replace q0 := bt q0 C2.out; replace hsz := q0.size; have HT := Lib.hid kv; clear kv; have HLq := Lib.hid (HLo.out _ q0); clear hb; have st2 := Lib.hid True.intro; clear this))
    go_ret
    exact ⟨rfl, bt Hb0.out q0⟩
  · clear HG
    go_wp2_with (go_at_call 12; refine (wakes11 _).mono ?_; rintro e w2 ⟨rfl, hb⟩)
    go_ret
    exact ⟨rfl, bt Hb0.out (bt q0 hb)⟩
end Go.Proofs.YtogngcbflhdadaaGreat

namespace Go.Proofs.YtogngcbflhdadaaGreat
open Go Go.RowKit Go.ChangeShapes Go.WideShapes Go.ChangeAt

set_option maxRecDepth 100000 in
theorem singleTells_lifted (os : Os) (started : os.Started) (H : Type) (enc : TypeId × Value → H) :
    ReturnsInHanded {} Tryz.checked os 3 .any (Rows.singleTellsSpec.pre6 enc Tryz.prog Tryz.f3 Rows.singleTellsRow.domain false) (Rows.singleTellsSpec.post enc Tryz.prog Tryz.f3 false true false false) := by
  refine returnsInHanded_of_change_sized (C := Tryz.checked) Tryz.own started (by kernel_rfl) Tryz.func3
    (ChangeSpec.witness6 (enc := enc) (C := Tryz.checked) false ⟨#[], #[.agg #[.int .i64 0, .int .u8 0, .slice none 0 0], .int .i64 0, .slice none 0 0], []⟩ 8 (by kernel_rfl) (by kernel_rfl) (by kernel_rfl) (by kernel_rfl)) ?_
  intro W base args ds gs before hval0 hW hcnd hsz0 _
  have hval : ∀ (j : Nat) t v, Tryz.f3.params[j]? = some t → args[j]? = some v → Value.okWide Tryz.prog W .any base t v := hval0
  have hsz : (DataW.weightsEach Tryz.prog (Tryz.f3.params.toList ++ Rows.singleTellsSpec.plain.varTypes Tryz.prog) (ds ++ gs)).all (· ≤ reachBytes) = true := hsz0
  have hW' := hW
  obtain ⟨p, q, hA0, hV, rfl, hfz, hnd⟩ := hW
  have hA : DataW.TrodAll enc Tryz.prog W 0 (fun _ => true) true Tryz.f3.params.toList args.toList ds p := hA0
  rw [Tryz.params3] at hA hval hsz
  obtain ⟨v0, vs0, d0, ds0, p0, q0, hargs, rfl, rfl, h0, r0⟩ := trodAll_cons hA
  obtain ⟨v1, vs1, d1, ds1, p1, q1, rfl, rfl, rfl, h1, r1⟩ := trodAll_cons r0
  obtain ⟨v2, vs2, d2, ds2, p2, q2, rfl, rfl, rfl, h2, r2⟩ := trodAll_cons r1
  obtain ⟨rfl, rfl, rfl⟩ := trodAll_nil r2
  obtain rfl : args = #[v0, v1, v2] := by cases args; simp_all
  obtain ⟨rfl, rfl⟩ := trodVars_none hV
  have k0 := h0
  have k1 := h1
  have k2 := h2
  have lt0 : ∀ x ∈ p0, x.block < W.heap.size := by obtain ⟨m, hm⟩ := k0; exact DataW.trod_lt m _ _ _ hm
  have lt1 : ∀ x ∈ p1, x.block < W.heap.size := by obtain ⟨m, hm⟩ := k1; exact DataW.trod_lt m _ _ _ hm
  have lt2 : ∀ x ∈ p2, x.block < W.heap.size := by obtain ⟨m, hm⟩ := k2; exact DataW.trod_lt m _ _ _ hm
  obtain ⟨x0, y0⟩ := arg_prof (hval 0 _ v0 rfl rfl) h0 (weights_at hsz 0 rfl rfl)
  obtain ⟨x1, rfl, e1, e1', wf1⟩ := open_int Tryz.underlying3 (hval 1 _ v1 rfl rfl) h1
  obtain ⟨x2, y2⟩ := arg_ints (hval 2 _ v2 rfl rfl) h2 (weights_at hsz 2 rfl rfl)
  clear hA0 hval0
  refine (law_stells v0 v2 x0 x1 x2 W y0 wf1 y2).mono fun e W' ⟨he, bel⟩ => ?_
  subst he
  exact ⟨_, rfl, _, _, _, [], _, [], hW', trodAll_mk1 (shut_bool Tryz.underlying4 _), (trodAll_cons_mk (Below.trod Tryz.laidOut (by kernel_rfl) (of_decide_eq_true (by kernel_rfl)) k0 bel lt0) (trodAll_cons_mk (Below.trod Tryz.laidOut (by kernel_rfl) (of_decide_eq_true (by kernel_rfl)) k1 bel lt1) (trodAll_cons_mk (Below.trod Tryz.laidOut (by kernel_rfl) (of_decide_eq_true (by kernel_rfl)) k2 bel lt2) trodAll_mk0))), rfl, bel.frame _, fun h => by cases h⟩

theorem singleTells_named : Tryz.prog.funcNamed Rows.singleTellsRow.func = some 3 := by kernel_rfl
theorem singleTells_facts : joinedFacts Tryz.prog 3 Tryz.f3 Rows.singleTellsSpec Rows.singleTellsRow = true := by kernel_rfl
theorem singleTells_inst : Tryz.f3.isInstance Tryz.prog Rows.singleTellsRow.origin Rows.singleTellsRow.targs := of_decide_eq_true (by kernel_rfl)
theorem singleTells_wrap : Tryz.f3.isWrapper Tryz.prog Rows.singleTellsRow.wrapper Rows.singleTellsRow.mainSum := by
  unfold Func.isWrapper
  rw [if_neg (of_decide_eq_false (by kernel_rfl))]
  exact ⟨rfl, rfl⟩
theorem singleTells_holds : Rows.SingleTellsSaid :=
  OpenClaim.holds_of_wide 3 Tryz.f3 rfl rfl rfl rfl rfl rfl rfl ⟨rfl, rfl, rfl, rfl, rfl⟩ rfl rfl rfl rfl rfl singleTells_named Tryz.func3 singleTells_facts
    singleTells_inst singleTells_wrap
    (fun os started H enc _ => singleTells_lifted os started H enc)
#print axioms singleTells_holds
end Go.Proofs.YtogngcbflhdadaaGreat
