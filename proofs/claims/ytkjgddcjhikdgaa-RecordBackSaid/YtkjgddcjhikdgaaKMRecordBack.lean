/- The law RecordBack returns true whatever the input, and every argument reads behind the call as it read before. No condition. -/
import Derived.Test.YtkjgddcjhikdgaaKGLive
import Derived.Test.YtkjgddcjhikdgaaKGRead
import Derived.Test.YtkjgddcjhikdgaaKGTell
import Derived.Test.YtkjgddcjhikdgaaKGFoot
import Derived.Test.YtkjgddcjhikdgaaRows
import Derived.WalkKit
import Derived.ProofKit
import Derived.OpenShut
import Derived.ShutString
import Derived.ChangeOld
import Derived.Below

/- The walk of the law RecordBack. -/
namespace Go.Proofs.Ytkjgddcjhikdgaa
open Go Go.RowKit Go.Shelf

def BytOpen (L : List Int) (n : Nat) (I : Int) (w : World) (e : Ending) (w' : World) : Prop :=
  ∃ a c, e = .returned (.tuple #[.slice a n c, .int .i64 I]) ∧ RBytes Any w' (.slice a n c) L ∧ Below w.heap.size w w'
theorem BytOpen.of {b : Btc} {c kind : Int} {L : List Int} {n : Nat} {I : Int} {w w' : World} {e : Ending} (hI : recCheck [b] c kind = I) (hL : bytesV b c kind = L) (hn : L.length = n) (hl : L.length ≤ 1000000) (h : BytesGives b c kind w e w') : BytOpen L n I w e w' := by
  obtain ⟨u, he, ho, hb⟩ := h
  subst hI hL hn
  obtain ⟨a, cc, rfl⟩ := Own.shape ho
  exact ⟨a, cc, he, RSl.mono (fun _ _ _ h => h) (fun _ _ => trivial) (Own.rsl ho (by omega)), hb⟩
theorem bytesV_len (b : Btc) (c kind : Int) : (bytesV b c kind).length ≤ 1000000 := by
  by_cases h : recCheck [b] c kind = 0
  · have := (good_of h).len
    rw [bytesV, if_pos h]; omega
  · rw [bytesV, if_neg h]; simp
theorem bytes_all {S : Nat → Prop} {w : World} {v : Value} {xs : List Int} (h : RBytes S w v xs) : ∀ x ∈ xs, 0 ≤ x ∧ x ≤ 255 := by
  intro x hx
  obtain ⟨k, hk, rfl⟩ := List.getElem_of_mem hx
  obtain ⟨a, cap, rfl, -, -⟩ := RSl.shape h
  obtain ⟨_, _, _, _, _, h0, h1⟩ := RBytes.byte h hk
  exact ⟨h0, h1⟩
theorem one_lay' {sl : Value} {b : Btc} {w : World} (W : World) (h : dBtc Any w [.string b.name, sl] b) (hW : Below w.heap.size w W) : RBtcs Any (W.alloc (.cells #[.string b.name, sl] 64)) (.slice (some ⟨W.heap.size, 0, none⟩) 1 1) [b] :=
  one_lay (S := Any) (dBtc.stable Any _ _ _ _ (.of_below hW) h)

set_option maxHeartbeats 4000000 in
set_option maxRecDepth 100000 in
theorem back_great (sl : Value) (b : Btc) (c kind : Int) (v : Value) (xs : List Int) (w : World) (h : dBtc Any w [.string b.name, sl] b) (hv : RBytes Any w v xs) (hg : (great [b] || decide (20000 < xs.length)) = true) :
    Calls Try.prog 17 #[.agg #[.string b.name, sl], .int .i64 c, .int .u8 kind, v] w fun e w' => e = .returned (.bool true) ∧ Below w.heap.size w w' := by
  obtain ⟨a, cap, -, rfl, hl1, hl2, hbl0⟩ := h.open
  obtain ⟨a5, c5, rfl, -, -⟩ := RSl.shape hv
  have hb0 := below_new w (.cells #[.string b.name, .slice a b.blts.length cap] 64)
  have hG := fun W (hW : Below w.heap.size w W) => great26 Any _ [b] _ (one_lay' W h hW)
  have hbx := box_new w (.cells #[.string b.name, .slice a b.blts.length cap] 64)
  have HG := Lib.hid hG; have Hbx := Lib.hid hbx
  obtain ⟨g, hgg⟩ : ∃ g, great [b] = g := ⟨_, rfl⟩
  rw [hgg] at HG hg
  have hg2 : g = true ∨ (g = false ∧ (xs.length : Int) > 20000) := by
    cases g
    · right; simp at hg; exact ⟨rfl, by omega⟩
    · left; rfl
  clear hG hbx h hv hgg hg hbl0
  rcases hg2 with rfl | ⟨rfl, hlong⟩
  all_goals go_enter Try.func17, Try.ntmps17
  all_goals go_wp2_with (first
    | (go_at_call 58; refine (alive26 _).mono ?_; rintro e w1 ⟨rfl, hb1⟩; have hp1 := belT hb0 hb1 (by simp); have hz1 := hp1.size; obtain ⟨q1, k1, -⟩ := own_box hb1 (by simp) Hbx.out; have k10 := k1 0; have k11 := k1 1; have hlt1 := size_of_box q1; clear k1)
    | (go_at_call 18; refine (HG.out _ hp1).mono ?_; rintro e w2 ⟨rfl, hb2⟩; have hp2 := belT (B := w.heap.size) (w := w) (by go_grown) hb2 (by go_size)))
  all_goals go_ret
  all_goals exact ⟨rfl, hp2⟩


set_option maxHeartbeats 8000000 in
set_option maxRecDepth 100000 in
theorem back_00 (sl : Value) (b : Btc) (c kind : Int) (v : Value) (xs : List Int) (w : World) (h : dBtc Any w [.string b.name, sl] b) (hv : RBytes Any w v xs) (hg : great [b] = false) (hlong : ¬ 20000 < xs.length) (hI : recCheck [b] c kind = 0) (hJ : readI xs = 0) :
    Calls Try.prog 17 #[.agg #[.string b.name, sl], .int .i64 c, .int .u8 kind, v] w fun e w' => e = .returned (.bool true) ∧ Below w.heap.size w w' := by
  obtain ⟨a, cap, -, rfl, hl1, hl2, hbl0⟩ := h.open
  have hxa := bytes_all hv
  have hV := fun W (hW : Below w.heap.size w W) => RBytes.same (.of_below hW) hv
  obtain ⟨a5, c5, rfl, -, -⟩ := RSl.shape hv
  have hb0 := below_new w (.cells #[.string b.name, .slice a b.blts.length cap] 64)
  have hG : ∀ W (hW : Below w.heap.size w W), Calls Try.prog 18 #[.slice (some ⟨W.heap.size, 0, none⟩) 1 1] (W.alloc (.cells #[.string b.name, .slice a b.blts.length cap] 64)) fun e w' => e = .returned (.bool false) ∧ Below (W.alloc (.cells #[.string b.name, .slice a b.blts.length cap] 64)).heap.size (W.alloc (.cells #[.string b.name, .slice a b.blts.length cap] 64)) w' := fun W hW => by
    have := great26 Any _ [b] _ (one_lay' W h hW)
    rwa [hg] at this
  have hbx := box_new w (.cells #[.string b.name, .slice a b.blts.length cap] 64)
  have hXX := fun W (hW : Below (w.alloc (.cells #[.string b.name, .slice a b.blts.length cap] 64)).heap.size (w.alloc (.cells #[.string b.name, .slice a b.blts.length cap] 64)) W) => own_box hW (by simp) hbx
  have hD := fun W (hW : Below w.heap.size w W) => dBtc.stable Any _ _ _ _ (.of_below hW) h
  -- Bytes, Read
  obtain ⟨L1, hL1⟩ : ∃ L, bytesV b c kind = L := ⟨_, rfl⟩
  obtain ⟨n1, hn1⟩ : ∃ n, L1.length = n := ⟨_, rfl⟩
  have hll1 : L1.length ≤ 1000000 := by rw [← hL1]; exact bytesV_len _ _ _
  obtain ⟨I, hII⟩ : ∃ I, recCheck [b] c kind = I := ⟨_, rfl⟩
  have hB1 := fun W (hW : Below w.heap.size w W) => (recBytes Any _ b c kind W (hD W hW)).mono fun _ _ => BytOpen.of hII hL1 hn1 hll1
  obtain ⟨I1, hI1⟩ : ∃ I, readI L1 = I := ⟨_, rfl⟩
  obtain ⟨⟨bn1, bl1⟩, cd1, kd1, hV1⟩ : ∃ bt cd kd, readV L1 = (bt, cd, kd) := ⟨_, _, _, rfl⟩
  have hR1 := fun W p (hp : RBytes Any W p L1) => (recordRead Any p L1 W hp hll1).mono fun _ _ => ReadOpen.of hI1 hV1
  obtain ⟨J, hJJ⟩ : ∃ J, readI xs = J := ⟨_, rfl⟩
  obtain ⟨⟨bn2, bl2⟩, cd2, kd2, hV2⟩ : ∃ bt cd kd, readV xs = (bt, cd, kd) := ⟨_, _, _, rfl⟩
  have hR2 := fun W p (hp : RBytes Any W p xs) => (recordRead Any p xs W hp (by omega)).mono fun _ _ => ReadOpen.of hJJ hV2
  have hnl2 := readName_le xs
  rw [hV2] at hnl2
  obtain ⟨L2, hL2⟩ : ∃ L, bytesV ⟨bn2, bl2⟩ cd2 kd2 = L := ⟨_, rfl⟩
  obtain ⟨n2, hn2⟩ : ∃ n, L2.length = n := ⟨_, rfl⟩
  have hll2 : L2.length ≤ 1000000 := by rw [← hL2]; exact bytesV_len _ _ _
  obtain ⟨I2, hII2⟩ : ∃ I, recCheck [⟨bn2, bl2⟩] cd2 kd2 = I := ⟨_, rfl⟩
  have hB2 := fun W sl (hd : dBtc Any W [.string bn2, sl] ⟨bn2, bl2⟩) => (recBytes Any sl ⟨bn2, bl2⟩ cd2 kd2 W hd).mono fun _ _ => BytOpen.of hII2 hL2 hn2 hll2
  have hD2 : ∀ W a2 c2, RBlts Any W (.slice a2 bl2.length c2) bl2 → dBtc Any (W.alloc (.cells #[.string bn2, .slice a2 bl2.length c2] 64)) [.string bn2, .slice a2 bl2.length c2] ⟨bn2, bl2⟩ := fun W a2 c2 hr => ⟨_, rfl, by simp only at hnl2; show bn2.size ≤ 140737488355328; omega, hr.same (.of_below (below_new _ _))⟩
  rw [hI] at hII
  subst hII
  obtain ⟨r1, r2⟩ := read_bytes hI
  rw [hL1, hI1] at r1
  rw [hL1, hV1] at r2
  simp only [Prod.mk.injEq] at r2
  obtain ⟨e1, e2, e3⟩ := r2
  subst r1 e2 e3
  have hbn : bn1 = b.name ∧ bl1 = b.blts := by rw [← e1]; exact ⟨rfl, rfl⟩
  obtain ⟨rfl, rfl⟩ := hbn
  have hq : True := trivial
  have hS := fun W p q (hp : RBtcs Any W p [b]) (hq : RBtcs Any W q [b]) => recordSameT Any Any p q [b] W hp hq
  have hS1 : ∀ (W : World) a3 c3 (hW : Below w.heap.size w W), RBlts Any W (.slice a3 b.blts.length c3) b.blts → RBtcs Any (((W.alloc (.cells #[.string b.name, .slice a3 b.blts.length c3] 64)).alloc (.cells #[.string b.name, .slice a b.blts.length cap] 64)).alloc (.cells #[.string b.name, .slice a3 b.blts.length c3] 64)) (.slice (some ⟨W.heap.size + 1, 0, none⟩) 1 1) [b] ∧ RBtcs Any (((W.alloc (.cells #[.string b.name, .slice a3 b.blts.length c3] 64)).alloc (.cells #[.string b.name, .slice a b.blts.length cap] 64)).alloc (.cells #[.string b.name, .slice a3 b.blts.length c3] 64)) (.slice (some ⟨W.heap.size + 1 + 1, 0, none⟩) 1 1) [b] := fun W a3 c3 hW hr => by
    have h1 := one_lay' (W.alloc (.cells #[.string b.name, .slice a3 b.blts.length c3] 64)) h (hW.alloc hW.size _)
    have h2 := one_lay (S := Any) (b := b) (sl := .slice a3 b.blts.length c3) (w := (W.alloc (.cells #[.string b.name, .slice a3 b.blts.length c3] 64)).alloc (.cells #[.string b.name, .slice a b.blts.length cap] 64)) ⟨_, rfl, hl2, (hr.same (.of_below (below_new _ _))).same (.of_below (below_new _ _))⟩
    rw [World.size_alloc] at h1
    rw [World.size_alloc, World.size_alloc] at h2
    exact ⟨h1.same (.of_below (below_new _ _)), h2⟩
  obtain ⟨j1, j2⟩ := bytes_read hxa hJ
  rw [hV2] at j1 j2
  simp only at j1 j2
  rw [hII2] at j1
  rw [hL2] at j2
  clear hL2
  subst j1
  subst L2
  rw [hJJ] at hJ
  subst hJ
  have hst1 := fun W (hW : Below w.heap.size w W) => RBytes.str (hV W hW)
  have hst2 := fun W p (hp : RBytes Any W p xs) => RBytes.str hp
  obtain ⟨ss, hss⟩ : ∃ s, strOfNums xs = s := ⟨_, rfl⟩
  rw [hss] at hst1
  rw [hss] at hst2
  have Hst1 := Lib.hid hst1; have Hst2 := Lib.hid hst2
  clear hst1 hst2 hss
  have HV := Lib.hid hV; have HG := Lib.hid hG; have HXX := Lib.hid hXX; have HB1 := Lib.hid hB1; have HR1 := Lib.hid hR1; have HR2 := Lib.hid hR2; have HB2 := Lib.hid hB2; have HD2 := Lib.hid hD2
  have HS := Lib.hid hS; have HS1 := Lib.hid hS1
  clear hS hS1 e1
  clear hV hG hbx hXX hB1 hR1 hR2 hB2 hD hD2 h hv hbl0 hg hI  hxa hI1 hV1 hJJ hV2 hL1 hII2  hn1 hn2 hll1 hll2 hnl2
  have hlen : decide ((20000 : Int) < (xs.length : Int)) = false := decide_eq_false (by omega)
  have st0 := Lib.hid True.intro
  go_enter Try.func17, Try.ntmps17
  go_wp2_with (first
    | (have := st0; go_at_call 58; clear st0; refine (alive26 _).mono ?_; rintro e w1 ⟨rfl, hb1⟩; have hp1 := belT hb0 hb1 (by simp); have hz1 := hp1.size; have hx1 := hb1; obtain ⟨q1, k1, -⟩ := HXX.out _ hx1; have k10 := k1 0; have k11 := k1 1; have hlt1 := size_of_box q1; clear k1 q1; have st1 := Lib.hid True.intro; clear this)
    | (have := st1; go_at_call 18; clear st1; refine (HG.out _ hp1).mono ?_; rintro e w2 ⟨rfl, hb2⟩; have hp2 := belT (B := w.heap.size) (w := w) (by go_grown) hb2 (by go_size); have hz2 := hp2.size; have hx2 := belT (belT hx1 (below_new w1 _) hx1.size) hb2 (by have := hx1.size; simp at this ⊢; omega); obtain ⟨q2, k2, -⟩ := HXX.out _ hx2; have k20 := k2 0; have k21 := k2 1; have hlt2 := size_of_box q2; clear k2 q2 hx1; have st2 := Lib.hid True.intro; clear this)
    | (have := st2; go_at_call 69; clear st2; refine (HB1.out _ hp2).mono ?_; rintro e w3 ⟨a3, c3, rfl, hr3, hb3⟩; have hp3 := belT hp2 hb3 hz2; have hz3 := hp3.size; have hx3 := belT hx2 hb3 hx2.size; have Hr3 := Lib.hid hr3; clear hr3 hb3 hx2; have st3 := Lib.hid True.intro; clear this)
    | (have := st3; go_at_call 45; clear st3; refine (HR1.out _ _ Hr3.out).mono ?_; rintro e w4 ⟨a4, c4, rfl, hr4, hb4⟩; have hp4 := belT hp3 hb4 hz3; have hz4 := hp4.size; have hx4 := belT hx3 hb4 hx3.size; obtain ⟨q4, k4, -⟩ := HXX.out _ hx4; have k40 := k4 0; have k41 := k4 1; have hlt4 := size_of_box q4; have Hr4 := Lib.hid hr4; clear hr4 hb4 hx3 Hr3 k4 q4; have st4 := Lib.hid True.intro; clear this)
    | (have := st4; go_at_call 44; clear st4; obtain ⟨hs1, hs2⟩ := HS1.out _ _ _ hp4 Hr4.out; refine (HS.out _ _ _ hs1 hs2).mono ?_; rintro e w5 ⟨rfl, hb5⟩; have hp5 := belT (B := w.heap.size) (w := w) (by go_grown) hb5 (by go_size); have hz5 := hp5.size; clear hs1 hs2 hb5 Hr4; have st5 := Lib.hid True.intro; clear this)
    | (have := st5; go_at_call 45; clear st5; refine (HR2.out _ _ (HV.out _ (by go_grown))).mono ?_; rintro e w6 ⟨a6, c6, rfl, hr6, hb6⟩; have hp6 := belT (B := w.heap.size) (w := w) (by go_grown) hb6 (by go_size); have hz6 := hp6.size; have Hr6 := Lib.hid hr6; clear hr6 hb6; have st6 := Lib.hid True.intro; clear this)
    | (have := st6; go_at_call 69; clear st6; refine (HB2.out _ _ (HD2.out _ _ _ Hr6.out)).mono ?_; rintro e w7 ⟨a7, c7, rfl, hr7, hb7⟩; have hp7 := belT (B := w.heap.size) (w := w) (by go_grown) hb7 (by go_size); have hz7 := hp7.size; have hcv1 := Hst1.out _ hp7; have hcv2 := Hst2.out _ _ hr7; clear hr7 hb7; have st7 := Lib.hid True.intro; clear this))
  go_ret
  exact ⟨rfl, hp7⟩


set_option maxHeartbeats 8000000 in
set_option maxRecDepth 100000 in
theorem back_01 (sl : Value) (b : Btc) (c kind : Int) (v : Value) (xs : List Int) (w : World) (h : dBtc Any w [.string b.name, sl] b) (hv : RBytes Any w v xs) (hg : great [b] = false) (hlong : ¬ 20000 < xs.length) (hI : recCheck [b] c kind = 0) (hJ : readI xs ≠ 0) :
    Calls Try.prog 17 #[.agg #[.string b.name, sl], .int .i64 c, .int .u8 kind, v] w fun e w' => e = .returned (.bool true) ∧ Below w.heap.size w w' := by
  obtain ⟨a, cap, -, rfl, hl1, hl2, hbl0⟩ := h.open
  have hxa := bytes_all hv
  have hV := fun W (hW : Below w.heap.size w W) => RBytes.same (.of_below hW) hv
  obtain ⟨a5, c5, rfl, -, -⟩ := RSl.shape hv
  have hb0 := below_new w (.cells #[.string b.name, .slice a b.blts.length cap] 64)
  have hG : ∀ W (hW : Below w.heap.size w W), Calls Try.prog 18 #[.slice (some ⟨W.heap.size, 0, none⟩) 1 1] (W.alloc (.cells #[.string b.name, .slice a b.blts.length cap] 64)) fun e w' => e = .returned (.bool false) ∧ Below (W.alloc (.cells #[.string b.name, .slice a b.blts.length cap] 64)).heap.size (W.alloc (.cells #[.string b.name, .slice a b.blts.length cap] 64)) w' := fun W hW => by
    have := great26 Any _ [b] _ (one_lay' W h hW)
    rwa [hg] at this
  have hbx := box_new w (.cells #[.string b.name, .slice a b.blts.length cap] 64)
  have hXX := fun W (hW : Below (w.alloc (.cells #[.string b.name, .slice a b.blts.length cap] 64)).heap.size (w.alloc (.cells #[.string b.name, .slice a b.blts.length cap] 64)) W) => own_box hW (by simp) hbx
  have hD := fun W (hW : Below w.heap.size w W) => dBtc.stable Any _ _ _ _ (.of_below hW) h
  -- Bytes, Read
  obtain ⟨L1, hL1⟩ : ∃ L, bytesV b c kind = L := ⟨_, rfl⟩
  obtain ⟨n1, hn1⟩ : ∃ n, L1.length = n := ⟨_, rfl⟩
  have hll1 : L1.length ≤ 1000000 := by rw [← hL1]; exact bytesV_len _ _ _
  obtain ⟨I, hII⟩ : ∃ I, recCheck [b] c kind = I := ⟨_, rfl⟩
  have hB1 := fun W (hW : Below w.heap.size w W) => (recBytes Any _ b c kind W (hD W hW)).mono fun _ _ => BytOpen.of hII hL1 hn1 hll1
  obtain ⟨I1, hI1⟩ : ∃ I, readI L1 = I := ⟨_, rfl⟩
  obtain ⟨⟨bn1, bl1⟩, cd1, kd1, hV1⟩ : ∃ bt cd kd, readV L1 = (bt, cd, kd) := ⟨_, _, _, rfl⟩
  have hR1 := fun W p (hp : RBytes Any W p L1) => (recordRead Any p L1 W hp hll1).mono fun _ _ => ReadOpen.of hI1 hV1
  obtain ⟨J, hJJ⟩ : ∃ J, readI xs = J := ⟨_, rfl⟩
  obtain ⟨⟨bn2, bl2⟩, cd2, kd2, hV2⟩ : ∃ bt cd kd, readV xs = (bt, cd, kd) := ⟨_, _, _, rfl⟩
  have hR2 := fun W p (hp : RBytes Any W p xs) => (recordRead Any p xs W hp (by omega)).mono fun _ _ => ReadOpen.of hJJ hV2
  have hnl2 := readName_le xs
  rw [hV2] at hnl2
  obtain ⟨L2, hL2⟩ : ∃ L, bytesV ⟨bn2, bl2⟩ cd2 kd2 = L := ⟨_, rfl⟩
  obtain ⟨n2, hn2⟩ : ∃ n, L2.length = n := ⟨_, rfl⟩
  have hll2 : L2.length ≤ 1000000 := by rw [← hL2]; exact bytesV_len _ _ _
  obtain ⟨I2, hII2⟩ : ∃ I, recCheck [⟨bn2, bl2⟩] cd2 kd2 = I := ⟨_, rfl⟩
  have hB2 := fun W sl (hd : dBtc Any W [.string bn2, sl] ⟨bn2, bl2⟩) => (recBytes Any sl ⟨bn2, bl2⟩ cd2 kd2 W hd).mono fun _ _ => BytOpen.of hII2 hL2 hn2 hll2
  have hD2 : ∀ W a2 c2, RBlts Any W (.slice a2 bl2.length c2) bl2 → dBtc Any (W.alloc (.cells #[.string bn2, .slice a2 bl2.length c2] 64)) [.string bn2, .slice a2 bl2.length c2] ⟨bn2, bl2⟩ := fun W a2 c2 hr => ⟨_, rfl, by simp only at hnl2; show bn2.size ≤ 140737488355328; omega, hr.same (.of_below (below_new _ _))⟩
  rw [hI] at hII
  subst hII
  obtain ⟨r1, r2⟩ := read_bytes hI
  rw [hL1, hI1] at r1
  rw [hL1, hV1] at r2
  simp only [Prod.mk.injEq] at r2
  obtain ⟨e1, e2, e3⟩ := r2
  subst r1 e2 e3
  have hbn : bn1 = b.name ∧ bl1 = b.blts := by rw [← e1]; exact ⟨rfl, rfl⟩
  obtain ⟨rfl, rfl⟩ := hbn
  have hq : True := trivial
  have hS := fun W p q (hp : RBtcs Any W p [b]) (hq : RBtcs Any W q [b]) => recordSameT Any Any p q [b] W hp hq
  have hS1 : ∀ (W : World) a3 c3 (hW : Below w.heap.size w W), RBlts Any W (.slice a3 b.blts.length c3) b.blts → RBtcs Any (((W.alloc (.cells #[.string b.name, .slice a3 b.blts.length c3] 64)).alloc (.cells #[.string b.name, .slice a b.blts.length cap] 64)).alloc (.cells #[.string b.name, .slice a3 b.blts.length c3] 64)) (.slice (some ⟨W.heap.size + 1, 0, none⟩) 1 1) [b] ∧ RBtcs Any (((W.alloc (.cells #[.string b.name, .slice a3 b.blts.length c3] 64)).alloc (.cells #[.string b.name, .slice a b.blts.length cap] 64)).alloc (.cells #[.string b.name, .slice a3 b.blts.length c3] 64)) (.slice (some ⟨W.heap.size + 1 + 1, 0, none⟩) 1 1) [b] := fun W a3 c3 hW hr => by
    have h1 := one_lay' (W.alloc (.cells #[.string b.name, .slice a3 b.blts.length c3] 64)) h (hW.alloc hW.size _)
    have h2 := one_lay (S := Any) (b := b) (sl := .slice a3 b.blts.length c3) (w := (W.alloc (.cells #[.string b.name, .slice a3 b.blts.length c3] 64)).alloc (.cells #[.string b.name, .slice a b.blts.length cap] 64)) ⟨_, rfl, hl2, (hr.same (.of_below (below_new _ _))).same (.of_below (below_new _ _))⟩
    rw [World.size_alloc] at h1
    rw [World.size_alloc, World.size_alloc] at h2
    exact ⟨h1.same (.of_below (below_new _ _)), h2⟩
  have hz2 := read_bad hJ
  rw [hV2] at hz2
  simp only at hz2
  subst hz2
  rw [hJJ] at hJ
  have hj : (J != 0) = true := by simpa using hJ
  have hj' : (J == 0) = false := beq_eq_false_iff_ne.2 hJ
  have HV := Lib.hid hV; have HG := Lib.hid hG; have HXX := Lib.hid hXX; have HB1 := Lib.hid hB1; have HR1 := Lib.hid hR1; have HR2 := Lib.hid hR2; have HB2 := Lib.hid hB2; have HD2 := Lib.hid hD2
  have HS := Lib.hid hS; have HS1 := Lib.hid hS1
  clear hS hS1 e1
  clear hV hG hbx hXX hB1 hR1 hR2 hB2 hD hD2 h hv hbl0 hg hI hJ hxa hI1 hV1 hJJ hV2 hL1 hL2 hII2  hn1 hn2 hll1 hll2 hnl2
  have hlen : decide ((20000 : Int) < (xs.length : Int)) = false := decide_eq_false (by omega)
  have st0 := Lib.hid True.intro
  go_enter Try.func17, Try.ntmps17
  go_wp2_with (first
    | (have := st0; go_at_call 58; clear st0; refine (alive26 _).mono ?_; rintro e w1 ⟨rfl, hb1⟩; have hp1 := belT hb0 hb1 (by simp); have hz1 := hp1.size; have hx1 := hb1; obtain ⟨q1, k1, -⟩ := HXX.out _ hx1; have k10 := k1 0; have k11 := k1 1; have hlt1 := size_of_box q1; clear k1 q1; have st1 := Lib.hid True.intro; clear this)
    | (have := st1; go_at_call 18; clear st1; refine (HG.out _ hp1).mono ?_; rintro e w2 ⟨rfl, hb2⟩; have hp2 := belT (B := w.heap.size) (w := w) (by go_grown) hb2 (by go_size); have hz2 := hp2.size; have hx2 := belT (belT hx1 (below_new w1 _) hx1.size) hb2 (by have := hx1.size; simp at this ⊢; omega); obtain ⟨q2, k2, -⟩ := HXX.out _ hx2; have k20 := k2 0; have k21 := k2 1; have hlt2 := size_of_box q2; clear k2 q2 hx1; have st2 := Lib.hid True.intro; clear this)
    | (have := st2; go_at_call 69; clear st2; refine (HB1.out _ hp2).mono ?_; rintro e w3 ⟨a3, c3, rfl, hr3, hb3⟩; have hp3 := belT hp2 hb3 hz2; have hz3 := hp3.size; have hx3 := belT hx2 hb3 hx2.size; have Hr3 := Lib.hid hr3; clear hr3 hb3 hx2; have st3 := Lib.hid True.intro; clear this)
    | (have := st3; go_at_call 45; clear st3; refine (HR1.out _ _ Hr3.out).mono ?_; rintro e w4 ⟨a4, c4, rfl, hr4, hb4⟩; have hp4 := belT hp3 hb4 hz3; have hz4 := hp4.size; have hx4 := belT hx3 hb4 hx3.size; obtain ⟨q4, k4, -⟩ := HXX.out _ hx4; have k40 := k4 0; have k41 := k4 1; have hlt4 := size_of_box q4; have Hr4 := Lib.hid hr4; clear hr4 hb4 hx3 Hr3 k4 q4; have st4 := Lib.hid True.intro; clear this)
    | (have := st4; go_at_call 44; clear st4; obtain ⟨hs1, hs2⟩ := HS1.out _ _ _ hp4 Hr4.out; refine (HS.out _ _ _ hs1 hs2).mono ?_; rintro e w5 ⟨rfl, hb5⟩; have hp5 := belT (B := w.heap.size) (w := w) (by go_grown) hb5 (by go_size); have hz5 := hp5.size; clear hs1 hs2 hb5 Hr4; have st5 := Lib.hid True.intro; clear this)
    | (have := st5; go_at_call 45; clear st5; refine (HR2.out _ _ (HV.out _ (by go_grown))).mono ?_; rintro e w6 ⟨a6, c6, rfl, hr6, hb6⟩; have hp6 := belT (B := w.heap.size) (w := w) (by go_grown) hb6 (by go_size); have hz6 := hp6.size; have Hr6 := Lib.hid hr6; clear hr6 hb6; have st6 := Lib.hid True.intro; clear this)
    | (have := st6; go_at_call 69; clear st6; refine (HB2.out _ _ (HD2.out _ _ _ Hr6.out)).mono ?_; rintro e w7 ⟨a7, c7, rfl, hr7, hb7⟩; have hp7 := belT (B := w.heap.size) (w := w) (by go_grown) hb7 (by go_size); have hz7 := hp7.size; clear hr7 hb7; have st7 := Lib.hid True.intro; clear this))
  go_ret
  exact ⟨rfl, hp7⟩


set_option maxHeartbeats 8000000 in
set_option maxRecDepth 100000 in
theorem back_10 (sl : Value) (b : Btc) (c kind : Int) (v : Value) (xs : List Int) (w : World) (h : dBtc Any w [.string b.name, sl] b) (hv : RBytes Any w v xs) (hg : great [b] = false) (hlong : ¬ 20000 < xs.length) (hI : recCheck [b] c kind ≠ 0) (hJ : readI xs = 0) :
    Calls Try.prog 17 #[.agg #[.string b.name, sl], .int .i64 c, .int .u8 kind, v] w fun e w' => e = .returned (.bool true) ∧ Below w.heap.size w w' := by
  obtain ⟨a, cap, -, rfl, hl1, hl2, hbl0⟩ := h.open
  have hxa := bytes_all hv
  have hV := fun W (hW : Below w.heap.size w W) => RBytes.same (.of_below hW) hv
  obtain ⟨a5, c5, rfl, -, -⟩ := RSl.shape hv
  have hb0 := below_new w (.cells #[.string b.name, .slice a b.blts.length cap] 64)
  have hG : ∀ W (hW : Below w.heap.size w W), Calls Try.prog 18 #[.slice (some ⟨W.heap.size, 0, none⟩) 1 1] (W.alloc (.cells #[.string b.name, .slice a b.blts.length cap] 64)) fun e w' => e = .returned (.bool false) ∧ Below (W.alloc (.cells #[.string b.name, .slice a b.blts.length cap] 64)).heap.size (W.alloc (.cells #[.string b.name, .slice a b.blts.length cap] 64)) w' := fun W hW => by
    have := great26 Any _ [b] _ (one_lay' W h hW)
    rwa [hg] at this
  have hbx := box_new w (.cells #[.string b.name, .slice a b.blts.length cap] 64)
  have hXX := fun W (hW : Below (w.alloc (.cells #[.string b.name, .slice a b.blts.length cap] 64)).heap.size (w.alloc (.cells #[.string b.name, .slice a b.blts.length cap] 64)) W) => own_box hW (by simp) hbx
  have hD := fun W (hW : Below w.heap.size w W) => dBtc.stable Any _ _ _ _ (.of_below hW) h
  -- Bytes, Read
  obtain ⟨L1, hL1⟩ : ∃ L, bytesV b c kind = L := ⟨_, rfl⟩
  obtain ⟨n1, hn1⟩ : ∃ n, L1.length = n := ⟨_, rfl⟩
  have hll1 : L1.length ≤ 1000000 := by rw [← hL1]; exact bytesV_len _ _ _
  obtain ⟨I, hII⟩ : ∃ I, recCheck [b] c kind = I := ⟨_, rfl⟩
  have hB1 := fun W (hW : Below w.heap.size w W) => (recBytes Any _ b c kind W (hD W hW)).mono fun _ _ => BytOpen.of hII hL1 hn1 hll1
  obtain ⟨I1, hI1⟩ : ∃ I, readI L1 = I := ⟨_, rfl⟩
  obtain ⟨⟨bn1, bl1⟩, cd1, kd1, hV1⟩ : ∃ bt cd kd, readV L1 = (bt, cd, kd) := ⟨_, _, _, rfl⟩
  have hR1 := fun W p (hp : RBytes Any W p L1) => (recordRead Any p L1 W hp hll1).mono fun _ _ => ReadOpen.of hI1 hV1
  obtain ⟨J, hJJ⟩ : ∃ J, readI xs = J := ⟨_, rfl⟩
  obtain ⟨⟨bn2, bl2⟩, cd2, kd2, hV2⟩ : ∃ bt cd kd, readV xs = (bt, cd, kd) := ⟨_, _, _, rfl⟩
  have hR2 := fun W p (hp : RBytes Any W p xs) => (recordRead Any p xs W hp (by omega)).mono fun _ _ => ReadOpen.of hJJ hV2
  have hnl2 := readName_le xs
  rw [hV2] at hnl2
  obtain ⟨L2, hL2⟩ : ∃ L, bytesV ⟨bn2, bl2⟩ cd2 kd2 = L := ⟨_, rfl⟩
  obtain ⟨n2, hn2⟩ : ∃ n, L2.length = n := ⟨_, rfl⟩
  have hll2 : L2.length ≤ 1000000 := by rw [← hL2]; exact bytesV_len _ _ _
  obtain ⟨I2, hII2⟩ : ∃ I, recCheck [⟨bn2, bl2⟩] cd2 kd2 = I := ⟨_, rfl⟩
  have hB2 := fun W sl (hd : dBtc Any W [.string bn2, sl] ⟨bn2, bl2⟩) => (recBytes Any sl ⟨bn2, bl2⟩ cd2 kd2 W hd).mono fun _ _ => BytOpen.of hII2 hL2 hn2 hll2
  have hD2 : ∀ W a2 c2, RBlts Any W (.slice a2 bl2.length c2) bl2 → dBtc Any (W.alloc (.cells #[.string bn2, .slice a2 bl2.length c2] 64)) [.string bn2, .slice a2 bl2.length c2] ⟨bn2, bl2⟩ := fun W a2 c2 hr => ⟨_, rfl, by simp only at hnl2; show bn2.size ≤ 140737488355328; omega, hr.same (.of_below (below_new _ _))⟩
  rw [hII] at hI
  have hq : (I == 0) = false := beq_eq_false_iff_ne.2 hI
  have hq' : (I != 0) = true := by simpa using hI
  have hn10 : n1 = 0 := by
    rw [← hn1, ← hL1, bytesV, if_neg (by rw [hII]; exact hI)]; rfl
  subst hn10
  obtain ⟨j1, j2⟩ := bytes_read hxa hJ
  rw [hV2] at j1 j2
  simp only at j1 j2
  rw [hII2] at j1
  rw [hL2] at j2
  clear hL2
  subst j1
  subst L2
  rw [hJJ] at hJ
  subst hJ
  have hst1 := fun W (hW : Below w.heap.size w W) => RBytes.str (hV W hW)
  have hst2 := fun W p (hp : RBytes Any W p xs) => RBytes.str hp
  obtain ⟨ss, hss⟩ : ∃ s, strOfNums xs = s := ⟨_, rfl⟩
  rw [hss] at hst1
  rw [hss] at hst2
  have Hst1 := Lib.hid hst1; have Hst2 := Lib.hid hst2
  clear hst1 hst2 hss
  have HV := Lib.hid hV; have HG := Lib.hid hG; have HXX := Lib.hid hXX; have HB1 := Lib.hid hB1; have HR1 := Lib.hid hR1; have HR2 := Lib.hid hR2; have HB2 := Lib.hid hB2; have HD2 := Lib.hid hD2
  clear hV hG hbx hXX hB1 hR1 hR2 hB2 hD hD2 h hv hbl0 hg hI  hxa hI1 hV1 hJJ hV2 hL1 hII2 hII hn1 hn2 hll1 hll2 hnl2
  have hlen : decide ((20000 : Int) < (xs.length : Int)) = false := decide_eq_false (by omega)
  have st0 := Lib.hid True.intro
  go_enter Try.func17, Try.ntmps17
  go_wp2_with (first
    | (have := st0; go_at_call 58; clear st0; refine (alive26 _).mono ?_; rintro e w1 ⟨rfl, hb1⟩; have hp1 := belT hb0 hb1 (by simp); have hz1 := hp1.size; have hx1 := hb1; obtain ⟨q1, k1, -⟩ := HXX.out _ hx1; have k10 := k1 0; have k11 := k1 1; have hlt1 := size_of_box q1; clear k1 q1; have st1 := Lib.hid True.intro; clear this)
    | (have := st1; go_at_call 18; clear st1; refine (HG.out _ hp1).mono ?_; rintro e w2 ⟨rfl, hb2⟩; have hp2 := belT (B := w.heap.size) (w := w) (by go_grown) hb2 (by go_size); have hz2 := hp2.size; have hx2 := belT (belT hx1 (below_new w1 _) hx1.size) hb2 (by have := hx1.size; simp at this ⊢; omega); obtain ⟨q2, k2, -⟩ := HXX.out _ hx2; have k20 := k2 0; have k21 := k2 1; have hlt2 := size_of_box q2; clear k2 q2 hx1; have st2 := Lib.hid True.intro; clear this)
    | (have := st2; go_at_call 69; clear st2; refine (HB1.out _ hp2).mono ?_; rintro e w3 ⟨a3, c3, rfl, hr3, hb3⟩; have hp3 := belT hp2 hb3 hz2; have hz3 := hp3.size; have hx3 := belT hx2 hb3 hx2.size; have Hr3 := Lib.hid hr3; clear hr3 hb3 hx2; have st3 := Lib.hid True.intro; clear this)
    | (have := st3; go_at_call 45; clear st3; refine (HR1.out _ _ Hr3.out).mono ?_; rintro e w4 ⟨a4, c4, rfl, hr4, hb4⟩; have hp4 := belT hp3 hb4 hz3; have hz4 := hp4.size; have hx4 := belT hx3 hb4 hx3.size; obtain ⟨q4, k4, -⟩ := HXX.out _ hx4; have k40 := k4 0; have k41 := k4 1; have hlt4 := size_of_box q4; have Hr4 := Lib.hid hr4; clear hr4 hb4 hx3 Hr3 k4 q4; have st4 := Lib.hid True.intro; clear this)
    | (have := st4; go_at_call 45; clear st4; refine (HR2.out _ _ (HV.out _ (by go_grown))).mono ?_; rintro e w6 ⟨a6, c6, rfl, hr6, hb6⟩; have hp6 := belT (B := w.heap.size) (w := w) (by go_grown) hb6 (by go_size); have hz6 := hp6.size; have Hr6 := Lib.hid hr6; clear hr6 hb6; have st6 := Lib.hid True.intro; clear this)
    | (have := st6; go_at_call 69; clear st6; refine (HB2.out _ _ (HD2.out _ _ _ Hr6.out)).mono ?_; rintro e w7 ⟨a7, c7, rfl, hr7, hb7⟩; have hp7 := belT (B := w.heap.size) (w := w) (by go_grown) hb7 (by go_size); have hz7 := hp7.size; have hcv1 := Hst1.out _ hp7; have hcv2 := Hst2.out _ _ hr7; clear hr7 hb7; have st7 := Lib.hid True.intro; clear this))
  go_ret
  exact ⟨rfl, hp7⟩


set_option maxHeartbeats 8000000 in
set_option maxRecDepth 100000 in
theorem back_11 (sl : Value) (b : Btc) (c kind : Int) (v : Value) (xs : List Int) (w : World) (h : dBtc Any w [.string b.name, sl] b) (hv : RBytes Any w v xs) (hg : great [b] = false) (hlong : ¬ 20000 < xs.length) (hI : recCheck [b] c kind ≠ 0) (hJ : readI xs ≠ 0) :
    Calls Try.prog 17 #[.agg #[.string b.name, sl], .int .i64 c, .int .u8 kind, v] w fun e w' => e = .returned (.bool true) ∧ Below w.heap.size w w' := by
  obtain ⟨a, cap, -, rfl, hl1, hl2, hbl0⟩ := h.open
  have hxa := bytes_all hv
  have hV := fun W (hW : Below w.heap.size w W) => RBytes.same (.of_below hW) hv
  obtain ⟨a5, c5, rfl, -, -⟩ := RSl.shape hv
  have hb0 := below_new w (.cells #[.string b.name, .slice a b.blts.length cap] 64)
  have hG : ∀ W (hW : Below w.heap.size w W), Calls Try.prog 18 #[.slice (some ⟨W.heap.size, 0, none⟩) 1 1] (W.alloc (.cells #[.string b.name, .slice a b.blts.length cap] 64)) fun e w' => e = .returned (.bool false) ∧ Below (W.alloc (.cells #[.string b.name, .slice a b.blts.length cap] 64)).heap.size (W.alloc (.cells #[.string b.name, .slice a b.blts.length cap] 64)) w' := fun W hW => by
    have := great26 Any _ [b] _ (one_lay' W h hW)
    rwa [hg] at this
  have hbx := box_new w (.cells #[.string b.name, .slice a b.blts.length cap] 64)
  have hXX := fun W (hW : Below (w.alloc (.cells #[.string b.name, .slice a b.blts.length cap] 64)).heap.size (w.alloc (.cells #[.string b.name, .slice a b.blts.length cap] 64)) W) => own_box hW (by simp) hbx
  have hD := fun W (hW : Below w.heap.size w W) => dBtc.stable Any _ _ _ _ (.of_below hW) h
  -- Bytes, Read
  obtain ⟨L1, hL1⟩ : ∃ L, bytesV b c kind = L := ⟨_, rfl⟩
  obtain ⟨n1, hn1⟩ : ∃ n, L1.length = n := ⟨_, rfl⟩
  have hll1 : L1.length ≤ 1000000 := by rw [← hL1]; exact bytesV_len _ _ _
  obtain ⟨I, hII⟩ : ∃ I, recCheck [b] c kind = I := ⟨_, rfl⟩
  have hB1 := fun W (hW : Below w.heap.size w W) => (recBytes Any _ b c kind W (hD W hW)).mono fun _ _ => BytOpen.of hII hL1 hn1 hll1
  obtain ⟨I1, hI1⟩ : ∃ I, readI L1 = I := ⟨_, rfl⟩
  obtain ⟨⟨bn1, bl1⟩, cd1, kd1, hV1⟩ : ∃ bt cd kd, readV L1 = (bt, cd, kd) := ⟨_, _, _, rfl⟩
  have hR1 := fun W p (hp : RBytes Any W p L1) => (recordRead Any p L1 W hp hll1).mono fun _ _ => ReadOpen.of hI1 hV1
  obtain ⟨J, hJJ⟩ : ∃ J, readI xs = J := ⟨_, rfl⟩
  obtain ⟨⟨bn2, bl2⟩, cd2, kd2, hV2⟩ : ∃ bt cd kd, readV xs = (bt, cd, kd) := ⟨_, _, _, rfl⟩
  have hR2 := fun W p (hp : RBytes Any W p xs) => (recordRead Any p xs W hp (by omega)).mono fun _ _ => ReadOpen.of hJJ hV2
  have hnl2 := readName_le xs
  rw [hV2] at hnl2
  obtain ⟨L2, hL2⟩ : ∃ L, bytesV ⟨bn2, bl2⟩ cd2 kd2 = L := ⟨_, rfl⟩
  obtain ⟨n2, hn2⟩ : ∃ n, L2.length = n := ⟨_, rfl⟩
  have hll2 : L2.length ≤ 1000000 := by rw [← hL2]; exact bytesV_len _ _ _
  obtain ⟨I2, hII2⟩ : ∃ I, recCheck [⟨bn2, bl2⟩] cd2 kd2 = I := ⟨_, rfl⟩
  have hB2 := fun W sl (hd : dBtc Any W [.string bn2, sl] ⟨bn2, bl2⟩) => (recBytes Any sl ⟨bn2, bl2⟩ cd2 kd2 W hd).mono fun _ _ => BytOpen.of hII2 hL2 hn2 hll2
  have hD2 : ∀ W a2 c2, RBlts Any W (.slice a2 bl2.length c2) bl2 → dBtc Any (W.alloc (.cells #[.string bn2, .slice a2 bl2.length c2] 64)) [.string bn2, .slice a2 bl2.length c2] ⟨bn2, bl2⟩ := fun W a2 c2 hr => ⟨_, rfl, by simp only at hnl2; show bn2.size ≤ 140737488355328; omega, hr.same (.of_below (below_new _ _))⟩
  rw [hII] at hI
  have hq : (I == 0) = false := beq_eq_false_iff_ne.2 hI
  have hq' : (I != 0) = true := by simpa using hI
  have hn10 : n1 = 0 := by
    rw [← hn1, ← hL1, bytesV, if_neg (by rw [hII]; exact hI)]; rfl
  subst hn10
  have hz2 := read_bad hJ
  rw [hV2] at hz2
  simp only at hz2
  subst hz2
  rw [hJJ] at hJ
  have hj : (J != 0) = true := by simpa using hJ
  have hj' : (J == 0) = false := beq_eq_false_iff_ne.2 hJ
  have HV := Lib.hid hV; have HG := Lib.hid hG; have HXX := Lib.hid hXX; have HB1 := Lib.hid hB1; have HR1 := Lib.hid hR1; have HR2 := Lib.hid hR2; have HB2 := Lib.hid hB2; have HD2 := Lib.hid hD2
  clear hV hG hbx hXX hB1 hR1 hR2 hB2 hD hD2 h hv hbl0 hg hI hJ hxa hI1 hV1 hJJ hV2 hL1 hL2 hII2 hII hn1 hn2 hll1 hll2 hnl2
  have hlen : decide ((20000 : Int) < (xs.length : Int)) = false := decide_eq_false (by omega)
  have st0 := Lib.hid True.intro
  go_enter Try.func17, Try.ntmps17
  go_wp2_with (first
    | (have := st0; go_at_call 58; clear st0; refine (alive26 _).mono ?_; rintro e w1 ⟨rfl, hb1⟩; have hp1 := belT hb0 hb1 (by simp); have hz1 := hp1.size; have hx1 := hb1; obtain ⟨q1, k1, -⟩ := HXX.out _ hx1; have k10 := k1 0; have k11 := k1 1; have hlt1 := size_of_box q1; clear k1 q1; have st1 := Lib.hid True.intro; clear this)
    | (have := st1; go_at_call 18; clear st1; refine (HG.out _ hp1).mono ?_; rintro e w2 ⟨rfl, hb2⟩; have hp2 := belT (B := w.heap.size) (w := w) (by go_grown) hb2 (by go_size); have hz2 := hp2.size; have hx2 := belT (belT hx1 (below_new w1 _) hx1.size) hb2 (by have := hx1.size; simp at this ⊢; omega); obtain ⟨q2, k2, -⟩ := HXX.out _ hx2; have k20 := k2 0; have k21 := k2 1; have hlt2 := size_of_box q2; clear k2 q2 hx1; have st2 := Lib.hid True.intro; clear this)
    | (have := st2; go_at_call 69; clear st2; refine (HB1.out _ hp2).mono ?_; rintro e w3 ⟨a3, c3, rfl, hr3, hb3⟩; have hp3 := belT hp2 hb3 hz2; have hz3 := hp3.size; have hx3 := belT hx2 hb3 hx2.size; have Hr3 := Lib.hid hr3; clear hr3 hb3 hx2; have st3 := Lib.hid True.intro; clear this)
    | (have := st3; go_at_call 45; clear st3; refine (HR1.out _ _ Hr3.out).mono ?_; rintro e w4 ⟨a4, c4, rfl, hr4, hb4⟩; have hp4 := belT hp3 hb4 hz3; have hz4 := hp4.size; have hx4 := belT hx3 hb4 hx3.size; obtain ⟨q4, k4, -⟩ := HXX.out _ hx4; have k40 := k4 0; have k41 := k4 1; have hlt4 := size_of_box q4; have Hr4 := Lib.hid hr4; clear hr4 hb4 hx3 Hr3 k4 q4; have st4 := Lib.hid True.intro; clear this)
    | (have := st4; go_at_call 45; clear st4; refine (HR2.out _ _ (HV.out _ (by go_grown))).mono ?_; rintro e w6 ⟨a6, c6, rfl, hr6, hb6⟩; have hp6 := belT (B := w.heap.size) (w := w) (by go_grown) hb6 (by go_size); have hz6 := hp6.size; have Hr6 := Lib.hid hr6; clear hr6 hb6; have st6 := Lib.hid True.intro; clear this)
    | (have := st6; go_at_call 69; clear st6; refine (HB2.out _ _ (HD2.out _ _ _ Hr6.out)).mono ?_; rintro e w7 ⟨a7, c7, rfl, hr7, hb7⟩; have hp7 := belT (B := w.heap.size) (w := w) (by go_grown) hb7 (by go_size); have hz7 := hp7.size; clear hr7 hb7; have st7 := Lib.hid True.intro; clear this))
  go_ret
  exact ⟨rfl, hp7⟩

theorem law_back (sl : Value) (b : Btc) (c kind : Int) (v : Value) (xs : List Int) (w : World) (h : dBtc Any w [.string b.name, sl] b) (hv : RBytes Any w v xs) :
    Calls Try.prog 17 #[.agg #[.string b.name, sl], .int .i64 c, .int .u8 kind, v] w fun e w' => e = .returned (.bool true) ∧ Below w.heap.size w w' := by
  by_cases hg : (great [b] || decide (20000 < xs.length)) = true
  · exact back_great sl b c kind v xs w h hv hg
  · have hg' : great [b] = false ∧ ¬ 20000 < xs.length := by
      rw [Bool.not_eq_true, Bool.or_eq_false_iff, decide_eq_false_iff_not] at hg
      exact hg
    by_cases hI : recCheck [b] c kind = 0
    · by_cases hJ : readI xs = 0
      · exact back_00 sl b c kind v xs w h hv hg'.1 hg'.2 hI hJ
      · exact back_01 sl b c kind v xs w h hv hg'.1 hg'.2 hI hJ
    · by_cases hJ : readI xs = 0
      · exact back_10 sl b c kind v xs w h hv hg'.1 hg'.2 hI hJ
      · exact back_11 sl b c kind v xs w h hv hg'.1 hg'.2 hI hJ
end Go.Proofs.Ytkjgddcjhikdgaa

/- An argument that is a batch; the law RecordBack as its wrapper asks for it. -/
namespace Go.Proofs.Ytkjgddcjhikdgaa
open Go Go.RowKit Go.Deep Go.ChangeShapes Go.WideShapes Go.ChangeAt Go.Shelf

def VBtc (w : World) (v : Value) (b : Btc) : Prop := ∃ sl, v = .agg #[.string b.name, sl] ∧ dBtc Any w [.string b.name, sl] b
section
variable {H : Type} {enc : TypeId × Value → H} {w : World} {base : Nat} {spare : Nat → Bool} {held : Bool}
set_option maxRecDepth 100000 in
theorem arg_btc {b0 : Nat} {v : Value} {d : DataW H} {ps : List MemPlace} (hv : Value.okWide Try.prog w .any b0 64 v) (h : DataW.Trod enc Try.prog w base spare held 64 v d ps)
    (hz : ∀ m ∈ d.weights Try.prog 64, m ≤ reachBytes) : ∃ x, VBtc w v x := by
  obtain ⟨cs, rfl, hsz⟩ := okWide_struct Try.underlying64 hv
  obtain ⟨c, d', rfl⟩ := Go.Joins.array2 (hsz.trans Try.cellsBtc)
  obtain ⟨c0, d0, y0, y1, n, e0, rfl, rfl, h0, h1⟩ := Go.Joins.open_agg2 Try.underlying64 (by kernel_rfl) Try.cellsBtc hv h
  simp only [Value.agg.injEq, Array.mk.injEq, List.cons.injEq, and_true] at e0
  obtain ⟨rfl, rfl⟩ := e0
  obtain ⟨s, e0, hs⟩ := str_of_trod Try.underlying9 h0 (fun m hm => hz m (by simp [DataW.weights, Try.underlying64, DataW.weightsEach, hm]))
  obtain ⟨v, xs, e1, hr⟩ := rsl_of_trod (α := Blt) (dec := dBlt Any) Try.underlying62 Try.cellsBlt (by omega) (by rw [Try.bytesBlt]; omega) h1
    (fun m hm => hz m (by simp [DataW.weights, Try.underlying64, DataW.weightsEach, hm])) (fun _ _ _ hy hm => blt_of hy hm)
  simp only [List.cons.injEq, and_true] at e0 e1
  subst e0 e1
  exact ⟨⟨s, xs⟩, _, rfl, _, rfl, hs, hr⟩
end
theorem law_back2 (u v : Value) (b : Btc) (c kind : Int) (xs : List Int) (w : World) (h : VBtc w u b) (_ : (Lit.int .i64 c).wf = true) (_ : (Lit.int .u8 kind).wf = true) (hv : RBytes Any w v xs) :
    Calls Try.prog 17 #[u, .int .i64 c, .int .u8 kind, v] w fun e w' => e = .returned (.bool true) ∧ Below w.heap.size w w' := by
  obtain ⟨sl, rfl, h⟩ := h
  exact law_back sl b c kind v xs w h hv
end Go.Proofs.Ytkjgddcjhikdgaa

namespace Go.Proofs.Ytkjgddcjhikdgaa
open Go Go.RowKit Go.ChangeShapes Go.WideShapes Go.ChangeAt

set_option maxRecDepth 100000 in
theorem recordBack_lifted (os : Os) (started : os.Started) (H : Type) (enc : TypeId × Value → H) :
    ReturnsInHanded {} Try.checked os 17 .any (Rows.recordBackSpec.pre6 enc Try.prog Try.f17 Rows.recordBackRow.domain false) (Rows.recordBackSpec.post enc Try.prog Try.f17 false true false false) := by
  refine returnsInHanded_of_change_sized (C := Try.checked) Try.own started (by kernel_rfl) Try.func17
    (ChangeSpec.witness6 (enc := enc) (C := Try.checked) false ⟨#[], #[.agg #[.string ⟨#[]⟩, .slice none 0 0], .int .i64 0, .int .u8 0, .slice none 0 0], []⟩ 8 (by kernel_rfl) (by kernel_rfl) (by kernel_rfl) (by kernel_rfl)) ?_
  intro W base args ds gs before hval0 hW hcnd hsz0 _
  have hval : ∀ (j : Nat) t v, Try.f17.params[j]? = some t → args[j]? = some v → Value.okWide Try.prog W .any base t v := hval0
  have hsz : (DataW.weightsEach Try.prog (Try.f17.params.toList ++ Rows.recordBackSpec.plain.varTypes Try.prog) (ds ++ gs)).all (· ≤ reachBytes) = true := hsz0
  have hW' := hW
  obtain ⟨p, q, hA0, hV, rfl, hfz, hnd⟩ := hW
  have hA : DataW.TrodAll enc Try.prog W 0 (fun _ => true) true Try.f17.params.toList args.toList ds p := hA0
  rw [Try.params17] at hA hval hsz
  obtain ⟨v0, vs0, d0, ds0, p0, q0, hargs, rfl, rfl, h0, r0⟩ := trodAll_cons hA
  obtain ⟨v1, vs1, d1, ds1, p1, q1, rfl, rfl, rfl, h1, r1⟩ := trodAll_cons r0
  obtain ⟨v2, vs2, d2, ds2, p2, q2, rfl, rfl, rfl, h2, r2⟩ := trodAll_cons r1
  obtain ⟨v3, vs3, d3, ds3, p3, q3, rfl, rfl, rfl, h3, r3⟩ := trodAll_cons r2
  obtain ⟨rfl, rfl, rfl⟩ := trodAll_nil r3
  obtain rfl : args = #[v0, v1, v2, v3] := by cases args; simp_all
  obtain ⟨rfl, rfl⟩ := trodVars_none hV
  have k0 := h0
  have k1 := h1
  have k2 := h2
  have k3 := h3
  have lt0 : ∀ x ∈ p0, x.block < W.heap.size := by obtain ⟨m, hm⟩ := k0; exact DataW.trod_lt m _ _ _ hm
  have lt1 : ∀ x ∈ p1, x.block < W.heap.size := by obtain ⟨m, hm⟩ := k1; exact DataW.trod_lt m _ _ _ hm
  have lt2 : ∀ x ∈ p2, x.block < W.heap.size := by obtain ⟨m, hm⟩ := k2; exact DataW.trod_lt m _ _ _ hm
  have lt3 : ∀ x ∈ p3, x.block < W.heap.size := by obtain ⟨m, hm⟩ := k3; exact DataW.trod_lt m _ _ _ hm
  obtain ⟨x0, y0⟩ := arg_btc (hval 0 _ v0 rfl rfl) h0 (weights_at hsz 0 rfl rfl)
  obtain ⟨x1, rfl, e1, e1', wf1⟩ := open_int Try.underlying3 (hval 1 _ v1 rfl rfl) h1
  obtain ⟨x2, rfl, e2, e2', wf2⟩ := open_int Try.underlying5 (hval 2 _ v2 rfl rfl) h2
  obtain ⟨x3, y3⟩ := arg_bytes (hval 3 _ v3 rfl rfl) h3 (weights_at hsz 3 rfl rfl)
  clear hA0 hval0
  refine (law_back2 v0 v3 x0 x1 x2 x3 W y0 wf1 wf2 y3).mono fun e W' ⟨he, bel⟩ => ?_
  subst he
  exact ⟨_, rfl, _, _, _, [], _, [], hW', trodAll_mk1 (shut_bool Try.underlying4 _), (trodAll_cons_mk (Below.trod Try.laidOut (by kernel_rfl) (of_decide_eq_true (by kernel_rfl)) k0 bel lt0) (trodAll_cons_mk (Below.trod Try.laidOut (by kernel_rfl) (of_decide_eq_true (by kernel_rfl)) k1 bel lt1) (trodAll_cons_mk (Below.trod Try.laidOut (by kernel_rfl) (of_decide_eq_true (by kernel_rfl)) k2 bel lt2) (trodAll_cons_mk (Below.trod Try.laidOut (by kernel_rfl) (of_decide_eq_true (by kernel_rfl)) k3 bel lt3) trodAll_mk0)))), rfl, bel.frame _, fun h => by cases h⟩

theorem recordBack_named : Try.prog.funcNamed Rows.recordBackRow.func = some 17 := by kernel_rfl
theorem recordBack_facts : joinedFacts Try.prog 17 Try.f17 Rows.recordBackSpec Rows.recordBackRow = true := by kernel_rfl
theorem recordBack_inst : Try.f17.isInstance Try.prog Rows.recordBackRow.origin Rows.recordBackRow.targs := of_decide_eq_true (by kernel_rfl)
theorem recordBack_wrap : Try.f17.isWrapper Try.prog Rows.recordBackRow.wrapper Rows.recordBackRow.mainSum := by
  unfold Func.isWrapper
  rw [if_neg (of_decide_eq_false (by kernel_rfl))]
  exact ⟨rfl, rfl⟩
theorem recordBack_holds : Rows.RecordBackSaid :=
  OpenClaim.holds_of_wide 17 Try.f17 rfl rfl rfl rfl rfl rfl rfl ⟨rfl, rfl, rfl, rfl, rfl⟩ rfl rfl rfl rfl rfl recordBack_named Try.func17 recordBack_facts
    recordBack_inst recordBack_wrap
    (fun os started H enc _ => recordBack_lifted os started H enc)
#print axioms recordBack_holds
end Go.Proofs.Ytkjgddcjhikdgaa
