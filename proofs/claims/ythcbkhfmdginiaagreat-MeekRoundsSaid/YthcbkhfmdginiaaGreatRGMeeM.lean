/- Texts of one claim,put together: MeeM. -/
import Derived.Test.YthcbkhfmdginiaaGreatRGMeeX
import Derived.WalkMore

namespace Go.Proofs.YthcbkhfmdginiaaGreat
open Go Go.RowKit Go.Shelf Limb

def numS : Value → Nat
 | .int _ n => n.toNat
 | _ => 0
set_option maxRecDepth 100000 in
set_option maxHeartbeats 8000000 in
set_option linter.unusedSimpArgs false in
theorem meeCount_ok (S T : Nat → Prop) (u v : Value) (p : Prof) (seats : Int) (lot : List Int) (w : World) (h : VProf S w u p) (hv : RInts T w v lot) (h0 : rankI p seats lot = 0) :
  Calls Tryz.prog 29 #[u,.int .i64 seats,v] w (GivesE 0 (meeV p seats lot) w) := by
 have h1 := h
 obtain ⟨a,cap,rfl,-,-,hR⟩ := h
 obtain ⟨a2,cap2,rfl,-,-⟩ := RSl.shape hv
 obtain ⟨C,sn,hF⟩ := rankF h0
 obtain rfl := hF.seats
 have hlo : lot.length ≤ 1000000 := by rw [hF.lot.len];have := hF.c10;omega
 rw [meeV_eq h0 hF.cands]
 obtain ⟨W2,hW2⟩ : ∃ W2,W2 = (w.alloc (.cells #[.int .i64 p.cands,.int .u8 p.kind,.slice a p.rows.length cap] 24)).alloc (.cells #[.slice none 0 0,.slice none 0 0,.slice none 0 0] 32) := ⟨_,rfl⟩
 have hb0 : Below w.heap.size w W2 := by rw [hW2];exact ((Below.refl _ _).alloc (Nat.le_refl _) _).alloc (by simp) _
 have hbo : W2.heap[w.heap.size + 1]? = some (.cells #[.slice none 0 0,.slice none 0 0,.slice none 0 0] 32 (0,0)) := by
  have := qa8 (w.alloc (.cells #[.int .i64 p.cands,.int .u8 p.kind,.slice a p.rows.length cap] 24)) (.cells #[.slice none 0 0,.slice none 0 0,.slice none 0 0] 32)
  rw [hW2]
  rwa [World.size_alloc] at this
 have hbp : W2.heap[w.heap.size]? = some (.cells #[.int .i64 p.cands,.int .u8 p.kind,.slice a p.rows.length cap] 24 (0,0)) := by
  rw [hW2];exact qay _ (qa8 w _)
 have hC := choCheck S T _ _ p 1 sn p.cands lot W2 (h1.same (.of_below hb0)) (hv.same (.of_below hb0)) hlo
 have hI : countI p 1 sn p.cands lot = 0 := h0
 have hOf := fun W (hW : Below W2.heap.size W2 W) => choOf T _ lot W (hv.same (.of_below (bt hb0 hW))) hlo
 have hMk := fun W (hW : Below W2.heap.size W2 W) => profMarked S _ p W (h1.same (.of_below (bt hb0 hW)))
 have hAl := fun W => choAll C W (by have := hF.c10;omega)
 rw [markV,if_pos hF.chk,hF.chk] at hMk
 have hRw := fun W (hW : Below W2.heap.size W2 W) => hR.cut.same (.of_below (bt hb0 hW))
 have hsq := fun i => meeS_sq hF i
 have hstep := fun i hi => meeS_step hF (k := i) hi
 have hend := fun i hi => meeS_end hF (k := i) hi
 have hinv := fun i => meeS_inv hF i
 have hin0 : meeS p sn lot 0 = ⟨List.replicate C 1000000000,rngI C,[],[],[]⟩ := by rw [meeS,run,hF.cands,Int.toNat_natCast]
 obtain ⟨gs,hgs⟩ : ∃ g,meeS p sn lot = g := ⟨_,rfl⟩
 obtain ⟨kk,hkk⟩ : ∃ c,p.kind = c := ⟨_,rfl⟩
 obtain ⟨n,hn⟩ : ∃ n,p.rows.length = n := ⟨_,rfl⟩
 obtain ⟨nl,hnl⟩ : ∃ n,lot.length = n := ⟨_,rfl⟩
 obtain ⟨V,hVV⟩ : ∃ V,markS p.rows = V := ⟨_,rfl⟩
 have hn64 : n ≤ 64 := by rw [← hn];exact hF.rows
 have hc10 := hF.c10
 have hs1 := hF.s
 have hsn10 : sn ≤ 10 := by omega
 have hC10 : C ≤ 10 := hc10.2
 rw [hI] at hC
 simp only [hF.cands,hkk,hn,hnl,hVV] at hC hOf hMk hRw hbp hW2
 simp only [hgs] at hsq hstep hend hinv hin0
 rw [hW2] at hC
 simp only [hF.cands,hkk,hn,hnl,hgs]
 have HC := Lib.hid hC;have HOf := Lib.hid hOf;have HMk := Lib.hid hMk;have HAl := Lib.hid hAl;have HRw := Lib.hid hRw;have Hin0 := Lib.hid hin0;have Hsq := Lib.hid hsq;have Hstep := Lib.hid hstep;have Hend := Lib.hid hend;have Hinv := Lib.hid hinv
 have Hbo := Lib.hid hbo;have Hbp := Lib.hid hbp;have HW2 := Lib.hid hW2;have Hb0 := Lib.hid hb0;have Hn := Lib.hid hn;have HF := Lib.hid hF;have HV := Lib.hid hVV;have Hkk := Lib.hid hkk
 clear hC hOf hMk hAl hRw hsq hstep hend hinv hbo hbp hW2 hb0 hn h1 hv hR hI hgs hkk hnl hVV hlo h0 hF hc10 hin0
 go_enter Tryz.func29,Tryz.ntmps29
 go_upto_region 4 with (go_at_call 61;refine HC.out.mono ?_;rintro e w1 ⟨rfl,hb⟩;rw [← HW2.out] at hb;have q1 := Lib.hid hb;clear hb)
 have qd := Lib.hid (bt q1.out (Below.drew (Below.refl _ w1)))
 have hS : ∀ W,Below W2.heap.size W2 W → W.cell? ⟨w.heap.size,0,none⟩ = some (.int .i64 C) ∧ W.cell? ⟨w.heap.size,1,none⟩ = some (.int .u8 kk) ∧ W.cell? ⟨w.heap.size,2,none⟩ = some (.slice a n cap) := fun W hW => ⟨(box3 Hbp.out hW).1,(box3 Hbp.out hW).2.1,(box3 Hbp.out hW).2.2.1⟩
 have HS := Lib.hid hS
 clear hS
 refine qat (S := (fun W : World => W.cell? ⟨w.heap.size,0,none⟩ = some (.int .i64 C) ∧ W.cell? ⟨w.heap.size,1,none⟩ = some (.int .u8 kk) ∧ W.cell? ⟨w.heap.size,2,none⟩ = some (.slice a n cap))) (L := []) (by kernel_rfl) (HS.out _ qd.out) (fun hHeld => ?_)
 refine tk 0 ?_ rfl hHeld ?_ ?_;rotate_left
 ·intro w hSw;(try dsimp only at hSw);go_simp;try (with_reducible rfl)
 (try simp only [la,lb,lc,ld,lf,lg,lh])
 refine tk 2 ?_ rfl hHeld ?_ ?_;rotate_left
 ·intro w hSw;(try dsimp only at hSw);go_simp;try (with_reducible rfl)
 (try simp only [la,lb,lc,ld,lf,lg,lh])
 refine tk 3 ?_ rfl hHeld ?_ ?_;rotate_left
 ·intro w hSw;(try dsimp only at hSw);go_simp;try (with_reducible rfl)
 (try simp only [la,lb,lc,ld,lf,lg,lh])
 refine tk 4 ?_ rfl hHeld ?_ ?_;rotate_left
 ·intro w hSw;(try dsimp only at hSw);go_simp;try (with_reducible rfl)
 (try simp only [la,lb,lc,ld,lf,lg,lh])
 refine tk 5 ?_ rfl hHeld ?_ ?_;rotate_left
 ·intro w hSw;(try dsimp only at hSw);go_simp;try (with_reducible rfl)
 (try simp only [la,lb,lc,ld,lf,lg,lh])
 refine qa9 (i := 1) (by kernel_rfl) rfl (fun K hK => ?_)
 (go_simp;go_at_call 62;refine (HOf.out _ qd.out).mono ?_;rintro e w3 ⟨gC,vl,rfl,hg3,hr3,hl3,hz3,hb⟩;have q3 := Lib.hid (bt qd.out hb);have B3 := Lib.hid (bt (Below.drew (Below.refl _ w1)) hb);have Hg3 := Lib.hid hg3;have Hr3 := Lib.hid hr3;have Hl3 := Lib.hid hl3;have Hz3 := Lib.hid hz3;clear hb hg3 hr3 hl3 hz3)
 refine hK.out _ _ (HS.out _ q3.out) (fun hHeld => ?_)
 clear hK K
 (try simp only [la,lb,lc,ld,lf,lg,lh])
 refine qa9 (i := 6) (by kernel_rfl) rfl (fun K hK => ?_)
 (go_simp;go_at_call 82;refine (HAl.out _).mono ?_;rintro e w4 ⟨vL,rfl,oL,hb⟩;obtain ⟨aL,nL,cL,rfl⟩ := Own.slice oL;have OL := Lib.hid oL;have B4 := Lib.hid hb;have q4 := Lib.hid (bt q3.out hb);clear oL hb)
 refine hK.out _ _ (HS.out _ q4.out) (fun hHeld => ?_)
 clear hK K
 (try simp only [la,lb,lc,ld,lf,lg,lh])
 refine tk 7 ?_ rfl hHeld ?_ ?_;rotate_left
 ·intro w hSw;(try dsimp only at hSw);go_simp;try (with_reducible rfl)
 (try simp only [la,lb,lc,ld,lf,lg,lh])
 refine qa9 (i := 8) (by kernel_rfl) rfl (fun K hK => ?_)
 go_simp
 refine hK.out _ _ (HS.out _ (bt q4.out (qa1 _ _))) (fun hHeld => ?_)
 clear hK K
 (try simp only [la,lb,lc,ld,lf,lg,lh])
 refine tk 9 ?_ rfl hHeld ?_ ?_;rotate_left
 ·intro w hSw;(try dsimp only at hSw);go_simp;try (with_reducible rfl)
 (try simp only [la,lb,lc,ld,lf,lg,lh])
 refine qam (by kernel_rfl) ?_ _
 obtain ⟨W5,hW5⟩ : ∃ W,W = w4.alloc (.cells #[.pointer (some ⟨gC,0,none⟩),.int .i64 C,.int .u8 kk,.slice a n cap,.int .i64 sn,.int .i64 0,.slice none 0 0,.slice aL nL cL,.int .i64 0,.slice none 0 0,.int .i64 0,.int .i64 0,.slice none 0 0,.bool false,.slice none 0 0,.slice none 0 0,.slice none 0 0,.slice none 0 0] 110) := ⟨_,rfl⟩
 rw [← hW5]
 have hb5 : Below w4.heap.size w4 W5 := by rw [hW5];exact qa1 _ _
 have q5 := Lib.hid (bt q4.out hb5)
 have hg5 : W5.heap[w4.heap.size]? = some (.cells #[.pointer (some ⟨gC,0,none⟩),.int .i64 C,.int .u8 kk,.slice a n cap,.int .i64 sn,.int .i64 0,.slice none 0 0,.slice aL nL cL,.int .i64 0,.slice none 0 0,.int .i64 0,.int .i64 0,.slice none 0 0,.bool false,.slice none 0 0,.slice none 0 0,.slice none 0 0,.slice none 0 0] 110 (0,0)) := by rw [hW5];exact qa8 _ _
 obtain ⟨p0,p1,p2,pl⟩ := box3 Hbp.out q5.out
 have hz5 : W5.heap.size = w4.heap.size + 1 := by rw [hW5];simp
 have B5 := Lib.hid hb5
 have Hg5 := Lib.hid hg5;have HW5 := Lib.hid hW5;have Hz5 := Lib.hid hz5
 clear hb5 hg5 hW5 hz5
 go_upto_region 6 with (go_at_call 42;refine (HMk.out _ q5.out).mono ?_;rintro e w6 ⟨rfl,hb⟩;have B6 := Lib.hid hb;have q6 := Lib.hid (bt q5.out hb);have hcc := qa6 hb (qa0 Hg5.out) Hg5.out;have hc5 := hcc.2.1 5;have hcf := hcc.2.2 5;have hcl := qa0 hcc.1;clear hb hcc p0 p1 p2 pl)
 have hnL : C = nL := by
  have := RSl.len (Own.rsl OL.out (by rw [qar];omega))
  rw [this,qar]
 subst hnL
 have hM0 := MSt.begin (lo := w1.heap.size) (gC := gC) (C := C) (p := p) (sn := (sn : Int)) (V := V) (vp := .slice a n cap) (vl := vl) (vL := .slice aL C cL) (lot := lot) (w3 := w3) (w4 := w4) (w5 := w6) Hl3.out Hg3.out Hr3.out Hz3.out B4.out OL.out (by rw [HF.out.cands,Hkk.out,← HW5.out];exact B6.out) (RSl.mono (fun _ _ _ hd => dRow.mono (fun b hb => Nat.lt_of_lt_of_le hb.2 (Nat.le_trans Hb0.out.size q1.out.size)) hd) (fun b hb => Nat.lt_of_lt_of_le hb.2 (Nat.le_trans Hb0.out.size q1.out.size)) (HRw.out w6 q6.out))
 obtain ⟨W6,hW6⟩ : ∃ W,W = w6.setCell ⟨w4.heap.size,5,none⟩ (.int .i64 V) := ⟨_,rfl⟩
 have hz31 : w1.heap.size ≤ w4.heap.size := by
  have := B4.out.size
  have h3 : w1.heap.size ≤ gC := Hl3.out
  have := Hz3.out
  omega
 have hb6 : Below w1.heap.size w1 W6 := by
  rw [hW6]
  exact (bt B3.out (bt B4.out (bt B5.out B6.out))).setCell (p := ⟨w4.heap.size,5,none⟩) hz31 _
 rw [← hW6] at hM0 ⊢
 obtain ⟨p0,p1,p2,pl⟩ := box3 Hbp.out (bt q1.out hb6)
 have HM0 := Lib.hid hM0;have Hb6 := Lib.hid hb6
 clear hM0 hb6 hW6 hc5 hcf hcl
 go_wp2
 clear p0 p1 p2 pl
 go_loopw [42] (fun i wr => ∃ (j : Nat) (vk : Value),j ≤ C ∧ i = .int .i64 j ∧ Hid (MSt ⟨w1.heap.size,gC,w4.heap.size,p,.slice a n cap,sn,V,lot,vl,fun _ _ => False⟩ wr ⟨.slice none 0 0,.slice none 0 0,.slice none 0 0,vk,.slice aL C cL,.slice none 0 0,.slice none 0 0,.slice none 0 0⟩ ⟨List.replicate j 1000000000,rngI C,[],[],[],[],0,0,0,[],[]⟩) ∧ Hid (Below w1.heap.size w1 wr)) (fun i _ => C - (intOf i).toNat)
 case atStart => exact ⟨0,_,Nat.zero_le _,rfl,HM0,Hb6⟩
 case round =>
  obtain ⟨j,vk,hj,rfl,hM,hb⟩ := hrel
  by_cases hlt : j < C
  ·obtain ⟨ak, ck, hvk⟩ : ∃ a c, vk = .slice a (List.replicate j (1000000000 : Int)).length c := Own.shape hM.out.ok
   rw [List.length_replicate] at hvk
   subst hvk
   have c6 : wr.cell? ⟨w4.heap.size,6,none⟩ = some (.slice ak j ck) := hM.out.cell.1 6
   have hlg := qa0 hM.out.bc
   dsimp only at hlg
   have hok := hM.out.ok
   have hbg := hM.out.big
   dsimp only at hok hbg
   have Hok := Lib.hid hok
   clear hok
   go_wp2_with (at_builtin;go_must (refine wpList_appJ wr Tryz.infoInt rfl rfl Tryz.underlying25 (w4.heap.size + 1) Hok.out rfl rfl (y := 1000000000) rfl (by rw [List.length_replicate];omega) hbg ?_);intro a8 n8 c8 w8 ho8 hb8 hg8 hm8;have Gr := hM.out.grown 5 hg8 (by decide) (by decide);have f6 := Gr.2.2.2.2 6;have c6' := Gr.2.2.2.1 6;have hl8 := qa0 Gr.1.2;dsimp only at f6 c6' hl8;have Ho8 := Lib.hid ho8;have Hg8 := Lib.hid hg8;have Hm8 := Lib.hid hm8;have B8 := Lib.hid (hb8 _ _ (Nat.le_trans hz31 (Nat.le_succ _)) hb.out);clear Gr ho8 hb8 hg8 hm8)
   obtain ⟨m9,k9⟩ := hM.out.keeps Ho8.out Hg8.out Hm8.out
   rw [show List.replicate j (1000000000 : Int) ++ [1000000000] = List.replicate (j + 1) 1000000000 from (List.replicate_succ' ..).symm] at m9
   exact ⟨⟨j + 1,_,by omega,by go_num,Lib.hid m9,Lib.hid (B8.out.setCell (p := ⟨w4.heap.size,6,none⟩) hz31 _)⟩,by simp [intOf];omega⟩
  ·obtain rfl : C = j := by omega
   obtain ⟨w7,rfl⟩ : ∃ w7,w7 = wr := ⟨_,rfl⟩
   have hsf : ∀ (W : World) (x : Addr) (f : Nat),(store x (.func (.func f) #[] #[])).run Tryz.prog W = stored Tryz.prog W x (.func (.func f) #[] #[]) .plain := fun W x f => run_store Tryz.prog W x _ _ rfl
   go_upto_block 2 with fail
   clear hsf
   obtain ⟨W8,hW8⟩ : ∃ W,W = w7.alloc (.cells #[.func (.func 83) #[] #[],.func (.func 84) #[] #[],.func (.func 85) #[] #[],.func (.func 86) #[] #[]] 112) := ⟨_,rfl⟩
   rw [← hW8]
   have hb8 : Below w7.heap.size w7 W8 := by rw [hW8];exact qa1 _ _
   have hg8 : W8.heap[w7.heap.size]? = some (.cells #[.func (.func 83) #[] #[],.func (.func 84) #[] #[],.func (.func 85) #[] #[],.func (.func 86) #[] #[]] 112 (0,0)) := by rw [hW8];exact qa8 _ _
   obtain ⟨k,hk⟩ : ∃ k : MCn,k = ⟨w1.heap.size,gC,w4.heap.size,p,.slice a n cap,sn,V,lot,vl,fun b o => b = w7.heap.size ∧ o = .cells #[.func (.func 83) #[] #[],.func (.func 84) #[] #[],.func (.func 85) #[] #[],.func (.func 86) #[] #[]] 112 (0,0)⟩ := ⟨_,rfl⟩
   have hM8 : MSt k W8 ⟨.slice none 0 0,.slice none 0 0,.slice none 0 0,vk,.slice aL C cL,.slice none 0 0,.slice none 0 0,.slice none 0 0⟩ ⟨List.replicate C 1000000000,rngI C,[],[],[],[],0,0,0,[],[]⟩ := by
    rw [hk]
    exact (hM.out.below hb8).withX _ fun b o ⟨e1,e2⟩ => ⟨by rw [e1,e2];exact hg8,fun i hi => by rw [e1] at hi;have := (hM.out.low i _ hi).2;omega⟩
   have hlow7 : k.lo ≤ w7.heap.size := by have := hM.out.big;rw [hk];dsimp only at this ⊢;omega
   have e1 : w4.heap.size = k.gc := by rw [hk]
   have e2 : gC = k.gC := by rw [hk]
   have e3 : w1.heap.size = k.lo := by rw [hk]
   have HFk : Hid (RankF k.p k.seats k.lot C sn) := Lib.hid (by rw [hk];exact HF.out)
   have Hvo : Hid (k.votes = markS k.p.rows) := Lib.hid (by rw [hk];exact HV.out.symm)
   have Hse : Hid (k.seats = (sn : Int)) := Lib.hid (by rw [hk])
   have Hlo : Hid (k.lo = w1.heap.size) := Lib.hid (by rw [hk])
   have Hkp : Hid (k.p = p ∧ k.lot = lot) := Lib.hid (by rw [hk];exact ⟨rfl,rfl⟩)
   have HX : Hid (∀ W v s,MSt k W v s → W.heap[w7.heap.size]? = some (.cells #[.func (.func 83) #[] #[],.func (.func 84) #[] #[],.func (.func 85) #[] #[],.func (.func 86) #[] #[]] 112 (0,0))) := Lib.hid fun W v s h => (h.bx _ _ (by rw [hk];exact ⟨rfl,rfl⟩)).1
   have hbW8 : Below k.lo w1 W8 := by rw [← e3];exact hb.out.trans (hb8.mono (by rw [e3];exact hlow7))
   have H8 := Lib.hid hM8;have B8 := Lib.hid hbW8
   have hf1 : ∀ args w,(callFunc 83 args).run Tryz.prog w = .ok (.enter 83 args) w := enters_of Tryz.func83 (by kernel_rfl) rfl
   have hf2 : ∀ args w,(callFunc 84 args).run Tryz.prog w = .ok (.enter 84 args) w := enters_of Tryz.func84 (by kernel_rfl) rfl
   have hf3 : ∀ args w,(callFunc 85 args).run Tryz.prog w = .ok (.enter 85 args) w := enters_of Tryz.func85 (by kernel_rfl) rfl
   have hf4 : ∀ args w,(callFunc 86 args).run Tryz.prog w = .ok (.enter 86 args) w := enters_of Tryz.func86 (by kernel_rfl) rfl
   have ix0 : ∀ w,(Instr.index 112 (.agg #[.func (.func 83) #[] #[],.func (.func 84) #[] #[],.func (.func 85) #[] #[],.func (.func 86) #[] #[]]) (.int .i64 0)).run Tryz.prog w = .ok (.func (.func 83) #[] #[]) w := fun _ => by kernel_rfl
   have ix1 : ∀ w,(Instr.index 112 (.agg #[.func (.func 83) #[] #[],.func (.func 84) #[] #[],.func (.func 85) #[] #[],.func (.func 86) #[] #[]]) (.int .i64 1)).run Tryz.prog w = .ok (.func (.func 84) #[] #[]) w := fun _ => by kernel_rfl
   have ix2 : ∀ w,(Instr.index 112 (.agg #[.func (.func 83) #[] #[],.func (.func 84) #[] #[],.func (.func 85) #[] #[],.func (.func 86) #[] #[]]) (.int .i64 2)).run Tryz.prog w = .ok (.func (.func 85) #[] #[]) w := fun _ => by kernel_rfl
   have ix3 : ∀ w,(Instr.index 112 (.agg #[.func (.func 83) #[] #[],.func (.func 84) #[] #[],.func (.func 85) #[] #[],.func (.func 86) #[] #[]]) (.int .i64 3)).run Tryz.prog w = .ok (.func (.func 86) #[] #[]) w := fun _ => by kernel_rfl
   rw [e1]
   clear hW8 hb8 hg8 hk hM8 hbW8 hM hb e1 e2 e3 hlow7 HM0 Hb6 hz31 HW5 Hg5 Hz5 B3 B4 B5 B6 OL Hg3 Hr3 Hl3 Hz3 HC HOf HMk HAl HRw
   go_wp2
   go_loopw [12] (fun _ wr => ∃ (i : Nat) (v : MV) (s : MP),Hid (MSo k wr v s) ∧ Hid (v.vr = .slice none 0 0 ∧ v.vo = .slice none 0 0) ∧ Hid (s.K = (gs i).st ∧ MRel (gs i) s) ∧ Hid (Below k.lo w1 wr)) (fun _ wr => C - lenS ((wr.cell? ⟨k.gC,1,none⟩).getD (.slice none 0 0)))
   case atStart => exact ⟨0,_,_,Lib.hid H8.out.o,Lib.hid ⟨rfl,rfl⟩,Lib.hid ⟨by rw [Hin0.out],by rw [Hin0.out];exact ⟨rfl,rfl,rfl,rfl,rfl,rfl⟩⟩,B8⟩
   case round =>
    clear H8 B8
    obtain ⟨i,v,s,hO,hv0,hrl,hb⟩ := hrel
    obtain ⟨c12,c13,c14,c15,c16,c17,hg⟩ := hO.out.2
    obtain ⟨-,hgc,hgf⟩ := qa6 (Below.refl _ wr) (qa0 hg) hg
    have hlg := qa0 hg
    have hlC := qa0 hO.out.1.bC
    have hCc := (qa6 (Below.refl _ wr) hlC hO.out.1.bC).2.1
    obtain ⟨ae,ce,hve⟩ : ∃ a c,v.ve = .slice a s.el.length c := Own.shape hO.out.1.oe
    obtain ⟨ad,cd,hvd⟩ : ∃ a c,v.vrd = .slice a s.rounds.length c := Own.shape hO.out.1.ord
    obtain ⟨at',ct,hvt⟩ : ∃ a c,v.vt = .slice a s.ties.length c := Own.shape hO.out.1.ot
    have hel := hrl.out.2.el
    obtain ⟨ne,hne⟩ : ∃ m,s.el.length = m := ⟨_,rfl⟩
    have c0 : wr.cell? ⟨k.gc,0,none⟩ = some (.pointer (some ⟨k.gC,0,none⟩)) := hgc 0
    have d0 : wr.cell? ⟨k.gC,0,none⟩ = some v.ve := hCc 0
    have d1 : wr.cell? ⟨k.gC,1,none⟩ = some v.vrd := hCc 1
    have d2 : wr.cell? ⟨k.gC,2,none⟩ = some v.vt := hCc 2
    rw [hve,hne] at d0
    have hI := Hsq.out i
    by_cases hlt3 : ne < sn
    ·have x8 : wr.cell? ⟨k.gc, 8, none⟩ = some (.int .i64 s.turns) := hgc 8
     have x12 : wr.cell? ⟨k.gc,12,none⟩ = some c12 := hgc 12
     have x13 : wr.cell? ⟨k.gc,13,none⟩ = some c13 := hgc 13
     have x14 : wr.cell? ⟨k.gc,14,none⟩ = some c14 := hgc 14
     have x15 : wr.cell? ⟨k.gc,15,none⟩ = some c15 := hgc 15
     have x16 : wr.cell? ⟨k.gc,16,none⟩ = some c16 := hgc 16
     have x17 : wr.cell? ⟨k.gc,17,none⟩ = some c17 := hgc 17
     have y8 := hgf 8;have y12 := hgf 12;have y13 := hgf 13;have y14 := hgf 14;have y15 := hgf 15;have y16 := hgf 16;have y17 := hgf 17
     obtain ⟨hMs,hbs⟩ := hO.out.start hv0.out.1 hv0.out.2
     have hst := Hstep.out i (by rw [← hel,hne];exact hlt3)
     have Hst := Lib.hid hst;have HMs := Lib.hid hMs;have Hbs := Lib.hid (hb.out.trans hbs)
     have Hd1 : Hid (lenS ((wr.cell? ⟨k.gC,1,none⟩).getD (.slice none 0 0)) = s.rounds.length) := Lib.hid (by rw [d1,hvd];rfl)
     clear hst hMs hbs d1 d2 hgc hgf hCc hg hve hvd hvt hel hI
     go_wp2
     go_step3
     go_wp2
     go_step3
     go_upto_block 4 with fail
     obtain ⟨ws,hws⟩ : ∃ W,W = ((((((wr.setCell ⟨k.gc,8,none⟩ (.int .i64 0)).setCell ⟨k.gc,12,none⟩ (.slice none 0 0)).setCell ⟨k.gc,13,none⟩ (.bool false)).setCell ⟨k.gc,14,none⟩ (.slice none 0 0)).setCell ⟨k.gc,15,none⟩ (.slice none 0 0)).setCell ⟨k.gc,16,none⟩ (.slice none 0 0)).setCell ⟨k.gc,17,none⟩ (.slice none 0 0) := ⟨_,rfl⟩
     rw [← hws] at HMs Hbs ⊢
     have Hg := Lib.hid hrl.out
     clear hws x8 x12 x13 x14 x15 x16 x17 y8 y12 y13 y14 y15 y16 y17 c0 d0 hlg hlC hO hv0 hrl hb
     obtain ⟨g,hge⟩ : ∃ g,gs i = g := ⟨_,rfl⟩
     obtain ⟨g1,hge1⟩ : ∃ g,gs (i + 1) = g := ⟨_,rfl⟩
     have Hge := Lib.hid hge;have Hge1 := Lib.hid hge1
     have hgI : SqI C sn g := by rw [← hge];exact Hsq.out i
     have hgK : KInv C g.st := by rw [← hge];exact Hinv.out i
     have hgs : g1 = step (meeR C sn k.p.rows) sn k.lot g := by rw [← hge,← hge1,Hkp.out.1,Hkp.out.2];exact Hst.out
     have hg0 : s.K = g.st ∧ MRel g s := by rw [← hge];exact Hg.out
     have HgI := Lib.hid hgI;have HgK := Lib.hid hgK;have Hgs := Lib.hid hgs;have Hg0 := Lib.hid hg0
     have Hgl : Hid (g.el.length < sn) := Lib.hid (by rw [← Hg0.out.2.el,hne];exact hlt3)
     clear hge hge1 hgI hgK hgs hg0 Hst Hg
     go_cut [12] from 55 to 124 (fun _ wc => ∃ (v1 : MV) (s1 : MP),Hid (MSt k wc v1 s1) ∧ Hid (REnd (meeR C sn k.p.rows) g g1 s1) ∧ Hid (s1.re.length ≤ 10) ∧ Hid (Below k.lo w1 wc))
     case first =>
      -- <cut>
      go_wp2
      go_loopw [12] (fun _ wt => ∃ (t : Nat) (v : MV) (s : MP),t ≤ 199 ∧ Hid (MSt k wt v s) ∧ Hid (s.turns = t ∧ MRel g s ∧ KInv C s.K ∧ (g.inn.length + g.el.length ≤ sn → s.K = g.st) ∧ (¬ g.inn.length + g.el.length ≤ sn → convK C sn k.p.rows g.inn g.el (199 - t) s.K = convS C sn k.p.rows g.st g.inn g.el)) ∧ Hid (Below k.lo w1 wt)) (fun _ wt => 200 - numS ((wt.cell? ⟨k.gc,8,none⟩).getD (.bool false)))
      case atStart =>
       refine ⟨0,v,{ s with turns := 0 },by omega,HMs,Lib.hid ⟨rfl,?_,?_,fun _ => Hg0.out.1,fun h => ?_⟩,Hbs⟩
       ·obtain ⟨r1, r2, r3, r4, r5, r6⟩ := Hg0.out.2
        exact ⟨r1,r2,r3,r4,r5,r6⟩
       ·show KInv C s.K;rw [Hg0.out.1];exact HgK.out
       ·show convK C sn k.p.rows g.inn g.el 199 s.K = _;rw [Hg0.out.1,convS,if_neg h]
      case round =>
       clear HMs Hbs
       obtain ⟨t,v,s,ht,hM,hs,hb⟩ := hrel
       have hT := meeTurn k v s C sn _ hM.out HFk.out Hvo.out hs.out.2.2.1 (by rw [hs.out.1];omega)
       have hok := MOk.turned HFk.out HgI.out hs.out.2.2.1 hs.out.2.1.inn hs.out.2.1.el hs.out.2.1.ties hs.out.2.1.re
       obtain ⟨st,hste⟩ : ∃ st,st = s.turned C sn k.p.rows := ⟨_,rfl⟩
       rw [← hste] at hT hok
       have HT := Lib.hid hT;have Hok := Lib.hid hok;have Hste := Lib.hid hste
       clear hT hok hste
       go_upto_region 14 with (go_at_call 87;refine HT.out.mono ?_;rintro e w5 ⟨rfl,⟨v5,m5⟩,b5⟩;have hx5 := HX.out _ _ _ m5;obtain ⟨-,hac,-⟩ := qa6 (Below.refl _ w5) (qa0 hx5) hx5;have a0 : w5.cell? ⟨w7.heap.size,0,none⟩ = some (.func (.func 83) #[] #[]) := hac 0;have a1 : w5.cell? ⟨w7.heap.size,1,none⟩ = some (.func (.func 84) #[] #[]) := hac 1;have a2 : w5.cell? ⟨w7.heap.size,2,none⟩ = some (.func (.func 85) #[] #[]) := hac 2;have a3 : w5.cell? ⟨w7.heap.size,3,none⟩ = some (.func (.func 86) #[] #[]) := hac 3;have al := qa0 hx5;have M5 := Lib.hid m5;have B5 := Lib.hid (hb.out.trans b5);clear hx5 hac m5 b5)
       have hine : st.inn = g.inn := by rw [Hste.out];exact hs.out.2.1.inn
       have hele : st.el = g.el := by rw [Hste.out];exact hs.out.2.1.el
       have hg10 : g.inn.length ≤ 10 := by have := Hok.out.inn10;rwa [hine] at this
       have hinne : st.inn ≠ [] := by rw [hine];exact HgI.out.ne Hgl.out
       by_cases hfill : g.inn.length + g.el.length ≤ sn
       ·have hyes : st.inn.length + st.el.length ≤ sn := by rw [hine, hele]; exact hfill
        have hend : REnd (meeR C sn k.p.rows) g g1 (st.filled (fillS st.had k.lot st.inn st.inn.length)) := by
         rw [Hgs.out,Hste.out];exact REnd.fill HFk.out.lot HgI.out hs.out.2.1 (hs.out.2.2.2.1 hfill) hfill
        have hre : (st.filled (fillS st.had k.lot st.inn st.inn.length)).re.length ≤ 10 := by
         have h4 := (qb3 (had := st.had) HFk.out.lot Hok.out.rng (qaz Hok.out.asc) st.inn.length (Nat.le_refl _)).2.2.2.1
         have h5 : st.re = [] := by rw [Hste.out];exact hs.out.2.1.re
         show (st.re ++ _).length ≤ 10
         rw [h5,List.nil_append,h4,hine];exact hg10
        have Hend := Lib.hid hend;have Hre := Lib.hid hre
        clear hend hre hM hs hb hine hele
        go_wp2
        clear a0 a1 a2 a3 al
        go_loopw [12,76] (fun _ jv wu => jv = .int .i64 0 ∧ ∃ v' : MV,Hid (MSt k wu v' st) ∧ Hid (Below k.lo w1 wu)) (fun _ _ _ => 0)
        case atStart => exact ⟨rfl,v5,M5,B5⟩
        case round =>
         obtain ⟨rfl,v',hM',hb'⟩ := hrel
         have hFi := meeFills_ok k v' st C sn _ hM'.out Hse.out hsn10 Hok.out hyes
         have HFi := Lib.hid hFi
         clear hFi hM'
         go_wp2_with (go_at_fn 83;refine HFi.out.mono ?_;rintro e w6 ⟨rfl,⟨v6,m6⟩,b6⟩;have M6 := Lib.hid m6;have B6 := Lib.hid (hb'.out.trans b6);clear m6 b6)
         go_meet
         exact ⟨v6,_,M6,Hend,Hre,B6⟩
       ·have hno : ¬ st.inn.length + st.el.length ≤ sn := by rw [hine, hele]; exact hfill
        have hcv := hs.out.2.2.2.2 hfill
        have hre0 : st.re = [] := by rw [Hste.out];exact hs.out.2.1.re
        obtain ⟨rb,hrb⟩ : ∃ b,reachB C sn k.p.rows g.inn s.K = b := ⟨_,rfl⟩
        have hrb2 : (st.inn.any fun x => decide (st.quota ≤ gI st.had x)) = rb := by rw [hine,← hrb,Hste.out];rfl
        cases rb with
        | true =>
         have hKF : s.K = convS C sn k.p.rows g.st g.inn g.el := by rw [← hcv,conv_now (.inl hrb)]
         have hend : REnd (meeR C sn k.p.rows) g g1 (st.elect (bestL (gI st.had) st.inn) (firstL k.lot (bestL (gI st.had) st.inn))) := by
          rw [Hgs.out,Hste.out];exact REnd.reach hs.out.2.1 hKF hfill hrb
         have Hend := Lib.hid hend
         have Hre : Hid ((st.elect (bestL (gI st.had) st.inn) (firstL k.lot (bestL (gI st.had) st.inn))).re.length ≤ 10) := Lib.hid (by show (st.re ++ [_]).length ≤ 10;rw [hre0];simp)
         clear hend hM hs hb hine hele hKF hcv hrb hre0
         go_wp2
         clear a0 a1 a2 a3 al
         go_loopw [12,76] (fun _ jv wu => ∃ (j : Nat) (v' : MV),j ≤ 1 ∧ jv = .int .i64 j ∧ Hid (MSt k wu v' st) ∧ Hid (Below k.lo w1 wu)) (fun _ jv _ => 4 - (intOf jv).toNat)
         case atStart => exact ⟨0,v5,by omega,rfl,M5,B5⟩
         case round =>
          obtain ⟨j,v',hj,rfl,hM',hb'⟩ := hrel
          rcases (show j = 0 ∨ j = 1 by omega) with rfl | rfl
          ·have hFi := meeFills_no k v' st C sn _ hM'.out Hse.out hsn10 Hok.out hno
           have HM6 : Hid (∀ W,Below wr.heap.size wr W → MSt k W v' st ∧ Below k.lo w1 W) := Lib.hid fun W hW => ⟨hM'.out.below hW,hb'.out.trans (hW.mono (by have := hM'.out.big;have := hM'.out.l1;have := hM'.out.l2;omega))⟩
           have HFi := Lib.hid hFi
           clear hFi hM' hb'
           go_wp2_with (go_at_fn 83;refine HFi.out.mono ?_;rintro e w6 ⟨rfl,b6⟩;have M6 := Lib.hid (HM6.out _ b6).1;have B6 := Lib.hid (HM6.out _ b6).2;clear b6)
           exact ⟨⟨1,v',by omega,by go_num,M6,B6⟩,by simp [intOf]⟩
          ·have hRe := meeReaches k v' st C _ hM'.out Hok.out hinne true hrb2
           have HRe := Lib.hid hRe;have Hbb := hb'
           clear hRe hM' hb'
           go_wp2_with (go_at_fn 84;refine HRe.out.mono ?_;rintro e w6 ⟨rfl,⟨v6,m6⟩,b6⟩;have M6 : Hid (MSt k w6 v6 (st.elect (bestL (gI st.had) st.inn) (firstL k.lot (bestL (gI st.had) st.inn)))) := Lib.hid m6;have B6 := Lib.hid (Hbb.out.trans b6);clear m6 b6)
           go_meet
           exact ⟨v6,_,M6,Hend,Hre,B6⟩
        | false =>
         by_cases hcond : st.above = false ∨ ¬ st.turns < 200
         ·have hKF : s.K = convS C sn k.p.rows g.st g.inn g.el := by
           rw [← hcv]
           rcases hcond with h | h
           ·have h2 : aboveB C sn k.p.rows g.el s.K = false := by rw [← h, ← hs.out.2.1.el, Hste.out]; rfl
            rw [conv_now (.inr h2)]
           ·have h2 : st.turns = (t : Int) + 1 := by rw [Hste.out]; show s.turns + 1 = _; rw [hs.out.1]
            have h3 : 199 - t = 0 := by omega
            rw [h3,convK]
          have hend : REnd (meeR C sn k.p.rows) g g1 (st.drop (bestL (fun y => - gI st.had y) st.inn) (firstL k.lot.reverse (bestL (fun y => - gI st.had y) st.inn))) := by
           rw [Hgs.out,Hste.out];exact REnd.drop hs.out.2.1 hKF hfill hrb
          have Hend := Lib.hid hend
          have Hre : Hid ((st.drop (bestL (fun y => - gI st.had y) st.inn) (firstL k.lot.reverse (bestL (fun y => - gI st.had y) st.inn))).re.length ≤ 10) := Lib.hid (by show st.re.length ≤ 10;rw [hre0];simp)
          have Hcond : Hid (st.above = false ∨ 200 ≤ st.turns) := Lib.hid (hcond.imp id Int.not_lt.1)
          clear hend hM hs hb hine hele hKF hcv hrb hre0 hcond
          go_wp2
          clear a0 a1 a2 a3 al
          go_loopw [12,76] (fun _ jv wu => ∃ (j : Nat) (v' : MV),j ≤ 2 ∧ jv = .int .i64 j ∧ Hid (MSt k wu v' st) ∧ Hid (Below k.lo w1 wu)) (fun _ jv _ => 4 - (intOf jv).toNat)
          case atStart => exact ⟨0,v5,by omega,rfl,M5,B5⟩
          case round =>
           obtain ⟨j,v',hj,rfl,hM',hb'⟩ := hrel
           rcases (show j = 0 ∨ j = 1 ∨ j = 2 by omega) with rfl | rfl | rfl
           ·have hFi := meeFills_no k v' st C sn _ hM'.out Hse.out hsn10 Hok.out hno
            have HM6 : Hid (∀ W,Below wr.heap.size wr W → MSt k W v' st ∧ Below k.lo w1 W) := Lib.hid fun W hW => ⟨hM'.out.below hW,hb'.out.trans (hW.mono (by have := hM'.out.big;have := hM'.out.l1;have := hM'.out.l2;omega))⟩
            have HFi := Lib.hid hFi
            clear hFi hM' hb'
            go_wp2_with (go_at_fn 83;refine HFi.out.mono ?_;rintro e w6 ⟨rfl,b6⟩;have M6 := Lib.hid (HM6.out _ b6).1;have B6 := Lib.hid (HM6.out _ b6).2;clear b6)
            exact ⟨⟨1,v',by omega,by go_num,M6,B6⟩,by simp [intOf]⟩
           ·have hRe := meeReaches k v' st C _ hM'.out Hok.out hinne false hrb2
            have HRe := Lib.hid hRe;have Hbb := hb'
            clear hRe hM' hb'
            go_wp2_with (go_at_fn 84;refine HRe.out.mono ?_;rintro e w6 ⟨rfl,⟨v6,m6⟩,b6⟩;have M6 : Hid (MSt k w6 v6 st) := Lib.hid m6;have B6 := Lib.hid (Hbb.out.trans b6);clear m6 b6)
            exact ⟨⟨2,v6,by omega,by go_num,M6,B6⟩,by simp [intOf]⟩
           ·have hDr := meeDrops_yes k v' st C _ hM'.out Hok.out hinne (Hcond.out.imp id Int.not_lt.2)
            have HDr := Lib.hid hDr;have Hbb := hb'
            clear hDr hM' hb'
            go_wp2_with (go_at_fn 85;refine HDr.out.mono ?_;rintro e w6 ⟨rfl,⟨v6,m6⟩,b6⟩;have M6 := Lib.hid m6;have B6 := Lib.hid (Hbb.out.trans b6);clear m6 b6)
            go_meet
            exact ⟨v6,_,M6,Hend,Hre,B6⟩
         ·have hab : st.above = true := by
           cases h : st.above
           ·exact absurd (.inl h) hcond
           ·rfl
          have htl : st.turns < 200 := Classical.not_not.1 fun h => hcond (.inr h)
          have htn : st.turns = (t : Int) + 1 := by rw [Hste.out];show s.turns + 1 = _;rw [hs.out.1]
          have habB : aboveB C sn k.p.rows g.el s.K = true := by rw [← hab,← hs.out.2.1.el,Hste.out];rfl
          have hnx := conv_next (n := 199 - (t + 1)) hrb habB
          rw [show 199 - (t + 1) + 1 = 199 - t by omega] at hnx
          rw [hnx] at hcv
          have hkj : st.keepJ C st.el.length = nextK C sn k.p.rows g.el s.K := by
           rw [keepJ_all,Hste.out]
           show (fl C fun x => if s.el.contains (x : Int) && _ then _ else _) = _
           rw [hs.out.2.1.el];rfl
          have hKn : KInv C (nextK C sn k.p.rows g.el s.K) := hs.out.2.2.1.next HFk.out g.el
          have hrel2 : MRel g { st with K := st.keepJ C st.el.length } := by
           obtain ⟨r1,r2,r3,r4,r5,r6⟩ := hs.out.2.1
           rw [Hste.out]
           exact ⟨r1,r2,r3,r4,r5,r6⟩
          have hms0 : numS ((wr.cell? ⟨k.gc,8,none⟩).getD (.bool false)) = t := by
           have h8 : wr.cell? ⟨k.gc,8,none⟩ = some (.int .i64 s.turns) := hM.out.cell.1 8
           rw [h8,hs.out.1];simp [numS]
          have Hms0 := Lib.hid hms0;have Hcv := Lib.hid hcv;have Hkj := Lib.hid hkj;have HKn := Lib.hid hKn;have Hrel2 := Lib.hid hrel2;have Htn := Lib.hid htn
          clear hms0 hcv hkj hKn hrel2 hnx habB hM hs hb hine hele hrb hre0 hcond htn
          go_wp2
          clear a0 a1 a2 a3 al
          go_loopw [12,76] (fun _ jv wu => ∃ (j : Nat) (v' : MV),j ≤ 4 ∧ jv = .int .i64 j ∧ Hid (MSt k wu v' (if j = 4 then { st with K := st.keepJ C st.el.length } else st)) ∧ Hid (Below k.lo w1 wu)) (fun _ jv _ => 4 - (intOf jv).toNat)
          case atStart => exact ⟨0,v5,by omega,rfl,M5,B5⟩
          case round =>
           obtain ⟨j,v',hj,rfl,hM',hb'⟩ := hrel
           rcases (show j = 0 ∨ j = 1 ∨ j = 2 ∨ j = 3 ∨ j = 4 by omega) with rfl | rfl | rfl | rfl | rfl
           ·have hFi := meeFills_no k v' st C sn _ hM'.out Hse.out hsn10 Hok.out hno
            have HM6 : Hid (∀ W,Below wr.heap.size wr W → MSt k W v' st ∧ Below k.lo w1 W) := Lib.hid fun W hW => ⟨hM'.out.below hW,hb'.out.trans (hW.mono (by have := hM'.out.big;have := hM'.out.l1;have := hM'.out.l2;omega))⟩
            have HFi := Lib.hid hFi
            clear hFi hM' hb'
            go_wp2_with (go_at_fn 83;refine HFi.out.mono ?_;rintro e w6 ⟨rfl,b6⟩;have M6 := Lib.hid (HM6.out _ b6).1;have B6 := Lib.hid (HM6.out _ b6).2;clear b6)
            exact ⟨⟨1,v',by omega,by go_num,M6,B6⟩,by simp [intOf]⟩
           ·have hRe := meeReaches k v' st C _ hM'.out Hok.out hinne false hrb2
            have HRe := Lib.hid hRe;have Hbb := hb'
            clear hRe hM' hb'
            go_wp2_with (go_at_fn 84;refine HRe.out.mono ?_;rintro e w6 ⟨rfl,⟨v6,m6⟩,b6⟩;have M6 : Hid (MSt k w6 v6 st) := Lib.hid m6;have B6 := Lib.hid (Hbb.out.trans b6);clear m6 b6)
            exact ⟨⟨2,v6,by omega,by go_num,M6,B6⟩,by simp [intOf]⟩
           ·have hDr := meeDrops_no k v' st C _ hM'.out Hok.out hab htl
            have HM6 : Hid (∀ W,Below wr.heap.size wr W → MSt k W v' st ∧ Below k.lo w1 W) := Lib.hid fun W hW => ⟨hM'.out.below hW,hb'.out.trans (hW.mono (by have := hM'.out.big;have := hM'.out.l1;have := hM'.out.l2;omega))⟩
            have HDr := Lib.hid hDr
            clear hDr hM' hb'
            go_wp2_with (go_at_fn 85;refine HDr.out.mono ?_;rintro e w6 ⟨rfl,b6⟩;have M6 := Lib.hid (HM6.out _ b6).1;have B6 := Lib.hid (HM6.out _ b6).2;clear b6)
            exact ⟨⟨3,v',by omega,by go_num,M6,B6⟩,by simp [intOf]⟩
           ·have hKe := meeKeepC k v' st C _ hM'.out Hok.out
            have HKe := Lib.hid hKe;have Hbb := hb'
            clear hKe hM' hb'
            go_wp2_with (go_at_fn 86;refine HKe.out.mono ?_;rintro e w6 ⟨rfl,⟨v6,m6⟩,b6⟩;have M6 := Lib.hid m6;have B6 := Lib.hid (Hbb.out.trans b6);clear m6 b6)
            exact ⟨⟨4,v6,by omega,by go_num,M6,B6⟩,by simp [intOf]⟩
           ·have hM4 : MSt k wr v' { st with K := st.keepJ C st.el.length } := hM'.out
            have HM4 := Lib.hid hM4
            clear hM4 hM'
            go_wp2
            refine ⟨⟨t + 1,v',_,by have := Htn.out;omega,HM4,Lib.hid ⟨by show st.turns = _;rw [Htn.out];omega,Hrel2.out,by show KInv C (st.keepJ C st.el.length);rw [Hkj.out];exact HKn.out,fun h => absurd h hfill,fun _ => by show convK C sn k.p.rows g.inn g.el (199 - (t + 1)) (st.keepJ C st.el.length) = _;rw [Hkj.out];exact Hcv.out⟩,hb'⟩,?_⟩
            have h8 : wr.cell? ⟨k.gc,8,none⟩ = some (.int .i64 st.turns) := HM4.out.cell.1 8
            rw [Hms0.out,h8,Htn.out]
            simp only [Option.getD_some,numS]
            have := Htn.out
            omega
      -- </cut>
     case rest =>
      rename World => wA
      clear HMs Hbs
      obtain ⟨v1,s1,hM1,hE1,hre1,hb1⟩ := hcut
      have hK' := HgK.out.conv HFk.out g.inn g.el
      have hhl : s1.had.length = C := by rw [hE1.out.had];exact qae _ _
      have hvt := HFk.out.votes
      have hhb : ∀ x ∈ s1.had,0 ≤ x ∧ x ≤ 1000000000000000 := fun x hx => by
       rw [hE1.out.had] at hx
       obtain ⟨i,hi,rfl⟩ := List.getElem_of_mem hx
       have hi2 : i < C := by rw [show g.had (meeR C sn k.p.rows) = fl C _ from rfl,qae] at hi;exact hi
       have := HFk.out.hadM hK'.ok (x := (i : Int)) ⟨by omega,by omega⟩
       rw [show (g.had (meeR C sn k.p.rows))[i] = hadM k.p.rows (convS C sn k.p.rows g.st g.inn g.el) (i : Int) from fl_get _]
       omega
      have hlb : 0 ≤ s1.lost ∧ s1.lost ≤ 1000000000000000 := by
       have := HFk.out.lostM hK'.ok
       rw [hE1.out.lost,show g.lost (meeR C sn k.p.rows) = lostM k.p.rows (convS C sn k.p.rows g.st g.inn g.el) from rfl]
       omega
      obtain ⟨ah,ch,hvh⟩ : ∃ a c,v1.vh = .slice a s1.had.length c := Own.shape hM1.out.oh
      rw [hhl] at hvh
      have hS : ∀ W,Below wA.heap.size wA W → W.cell? ⟨k.gc,9,none⟩ = some (.slice ah C ch) ∧ W.cell? ⟨k.gc,10,none⟩ = some (.int .i64 s1.lost) := fun W hW => ⟨by rw [← hvh];exact (hM1.out.below hW).cell.1 9,(hM1.out.below hW).cell.1 10⟩
      have hS12 : ∀ W u,Below wA.heap.size wA W → (W.setCell ⟨k.gc,12,none⟩ u).cell? ⟨k.gc,9,none⟩ = some (.slice ah C ch) ∧ (W.setCell ⟨k.gc,12,none⟩ u).cell? ⟨k.gc,10,none⟩ = some (.int .i64 s1.lost) := fun W u hW => by
       have h1 := qa2 (hM1.out.below hW).bc (o := 12) u
       have h2 := (qa6 (Below.refl _ _) (qa0 h1) h1).2.1
       exact ⟨by rw [← hvh];exact h2 9,h2 10⟩
      have hFz : ∀ W,Below wA.heap.size wA W → W.frozen? ⟨k.gc,12,none⟩ = false ∧ W.frozen? ⟨k.gc,13,none⟩ = false ∧ W.frozen? ⟨k.gc,14,none⟩ = false ∧ W.frozen? ⟨k.gc,15,none⟩ = false ∧ W.cell? ⟨k.gc,12,none⟩ = some (.slice none 0 0) ∧ W.cell? ⟨k.gc,13,none⟩ = some (.bool false) ∧ W.cell? ⟨k.gc,14,none⟩ = some (.slice none 0 0) ∧ W.cell? ⟨k.gc,15,none⟩ = some (.slice none 0 0) ∧ k.gc < W.heap.size := fun W hW => by
       have h1 := (hM1.out.below hW).cell
       exact ⟨h1.2 12,h1.2 13,h1.2 14,h1.2 15,h1.1 12,h1.1 13,h1.1 14,h1.1 15,qa0 (hM1.out.below hW).bc⟩
      have hT1 : ∀ W,Below wA.heap.size wA W → Calls Tryz.prog 88 #[.slice ah C ch] W (GivesR (s1.had.map bill) W) := fun W hW =>
       meeTold Any _ s1.had W (by rw [← hvh];exact RSl.mono (fun _ _ _ h => h) (fun _ _ => trivial) (Own.rsl (hM1.out.below hW).oh (by rw [hhl];omega))) (by rw [hhl];omega) hhb
      have hT2 : ∀ W u,RInts Any W u [s1.lost] → Calls Tryz.prog 88 #[u] W (GivesR ([s1.lost].map bill) W) := fun W u hu =>
       meeTold Any u [s1.lost] W hu (by simp) (fun x hx => by rw [List.mem_singleton.1 hx];exact hlb)
      have Hlw : Hid ((Lit.int .i64 s1.lost).wf = true) := Lib.hid (WalkArith.wf_i64 (by omega))
      have Hhl : Hid (s1.had.length ≤ 1000000) := Lib.hid (by rw [hhl];omega)
      have HS := Lib.hid hS;have HS12 := Lib.hid hS12;have HFz := Lib.hid hFz;have HT1 := Lib.hid hT1;have HT2 := Lib.hid hT2
      have Qd := Lib.hid (show Below wA.heap.size wA wA.drew from Below.drew (Below.refl _ wA))
      have hzd : wA.drew.heap.size = wA.heap.size := rfl
      have Hzd := Lib.hid hzd
      clear hS hS12 hFz hT1 hT2 hzd hhl hhb hlb hvh hvt hK'
      go_upto_region 19 with fail
      go_cut [] from 55 to 124 (fun wc => RndE k v1 s1 wA s1.had s1.lost wc)
      case first =>
       refine qat (S := (fun W : World => W.cell? ⟨k.gc,9,none⟩ = some (.slice ah C ch) ∧ W.cell? ⟨k.gc,10,none⟩ = some (.int .i64 s1.lost))) (L := [22]) (by kernel_rfl) (HS.out _ Qd.out) (fun hHeld => ?_)
       refine tk 0 ?_ rfl hHeld ?_ ?_;rotate_left
       ·intro w hSw;(try dsimp only at hSw);go_simp;try (with_reducible rfl)
       (try simp only [la,lb,lc,ld,lf,lg,lh])
       refine tk 1 ?_ rfl hHeld ?_ ?_;rotate_left
       ·intro w hSw;(try dsimp only at hSw);go_simp;try (with_reducible rfl)
       (try simp only [la,lb,lc,ld,lf,lg,lh])
       refine tk 2 ?_ rfl hHeld ?_ ?_;rotate_left
       ·intro w hSw;(try dsimp only at hSw);go_simp;try (with_reducible rfl)
       (try simp only [la,lb,lc,ld,lf,lg,lh])
       refine tk 3 ?_ rfl hHeld ?_ ?_;rotate_left
       ·intro w hSw;(try dsimp only at hSw);go_simp;try (with_reducible rfl)
       (try simp only [la,lb,lc,ld,lf,lg,lh])
       refine tk 4 ?_ rfl hHeld ?_ ?_;rotate_left
       ·intro w hSw;(try dsimp only at hSw);go_simp;try (with_reducible rfl)
       (try simp only [la,lb,lc,ld,lf,lg,lh])
       refine tk 5 ?_ rfl hHeld ?_ ?_;rotate_left
       ·intro w hSw;(try dsimp only at hSw);go_simp;try (with_reducible rfl)
       (try simp only [la,lb,lc,ld,lf,lg,lh])
       refine tk 7 ?_ rfl hHeld ?_ ?_;rotate_left
       ·intro w hSw;(try dsimp only at hSw);go_simp;try (with_reducible rfl)
       (try simp only [la,lb,lc,ld,lf,lg,lh])
       refine tk 8 ?_ rfl hHeld ?_ ?_;rotate_left
       ·intro w hSw;(try dsimp only at hSw);go_simp;try (with_reducible rfl)
       (try simp only [la,lb,lc,ld,lf,lg,lh])
       refine tk 9 ?_ rfl hHeld ?_ ?_;rotate_left
       ·intro w hSw;(try dsimp only at hSw);go_simp;try (with_reducible rfl)
       (try simp only [la,lb,lc,ld,lf,lg,lh])
       refine tk 10 ?_ rfl hHeld ?_ ?_;rotate_left
       ·intro w hSw;(try dsimp only at hSw);go_simp;try (with_reducible rfl)
       (try simp only [la,lb,lc,ld,lf,lg,lh])
       refine wpAnyL_two (i := 6) (j := 11) (by kernel_rfl) rfl rfl (fun K hK => ?_) (fun K hK => ?_)
       ·
        (go_simp;go_at_call 88;refine (HT1.out _ Qd.out).mono ?_;rintro e X3 ⟨v3,rfl,o3,b3⟩;obtain ⟨a3,n3,c3,rfl⟩ := Own.slice o3;have O3 := Lib.hid o3;have B3 := Lib.hid b3;have Q3 := Lib.hid (bt Qd.out b3);clear o3 b3)
        refine hK.out _ _ (HS.out _ Q3.out) (fun hHeld => ?_)
        clear hK K
        (try simp only [la,lb,lc,ld,lf,lg,lh])
        refine qa9 (i := 11) (by kernel_rfl) rfl (fun K hK => ?_)
        go_simp
        refine hK.out _ _ (HS.out _ (bt Q3.out (qa1 _ _))) (fun hHeld => ?_)
        clear hK K
        (try simp only [la,lb,lc,ld,lf,lg,lh])
        refine qa9 (i := 12) (by kernel_rfl) rfl (fun K hK => ?_)
        (go_simp;go_at_call 88;refine (HT2.out _ _ (lit1 (qa8 X3 _) Hlw.out)).mono ?_;rintro e X6 ⟨v6,rfl,o6,b6⟩;obtain ⟨g6,p6,an,mn,cn,ad,md,cd,rfl,h6,r6n,r6d⟩ := bill1 o6;have N6 := Lib.hid r6n;have M6 := Lib.hid r6d;obtain ⟨h60,h61,h62⟩ := h6 _ (Below.refl _ _);have l6 := qag h60;have B6 := Lib.hid b6;have Q6 := Lib.hid (bt (bt Q3.out (qa1 X3 _)) b6);have hfz := HFz.out _ Q6.out;obtain ⟨z12,z13,z14,z15,y12,y13,y14,y15,zl⟩ := hfz;clear r6n r6d h6 b6 o6)
        refine hK.out _ _ (HS.out _ Q6.out) (fun hHeld => ?_)
        clear hK K
        (try simp only [la,lb,lc,ld,lf,lg,lh])
        refine qa9 (i := 13) (by kernel_rfl) rfl (fun K hK => ?_)
        go_simp
        refine hK.out _ _ (HS.out _ Q6.out) (fun hHeld => ?_)
        clear hK K
        (try simp only [la,lb,lc,ld,lf,lg,lh])
        refine qa9 (i := 14) (by kernel_rfl) rfl (fun K hK => ?_)
        go_simp
        refine hK.out _ _ (HS.out _ Q6.out) (fun hHeld => ?_)
        clear hK K
        (try simp only [la,lb,lc,ld,lf,lg,lh])
        refine tk 15 ?_ rfl hHeld ?_ ?_;rotate_left
        ·intro w hSw;(try dsimp only at hSw);go_simp;try (with_reducible rfl)
        (try simp only [la,lb,lc,ld,lf,lg,lh])
        refine tk 16 ?_ rfl hHeld ?_ ?_;rotate_left
        ·intro w hSw;(try dsimp only at hSw);go_simp;try (with_reducible rfl)
        (try simp only [la,lb,lc,ld,lf,lg,lh])
        refine tk 17 ?_ rfl hHeld ?_ ?_;rotate_left
        ·intro w hSw;(try dsimp only at hSw);go_simp;try (with_reducible rfl)
        (try simp only [la,lb,lc,ld,lf,lg,lh])
        have hs12 := HS12.out _ (Value.slice a3 n3 c3) Q6.out
        refine qa9 (i := 18) (by kernel_rfl) rfl (fun K hK => ?_)
        go_simp
        refine hK.out _ _ hs12 (fun hHeld => ?_)
        clear hK K
        (try simp only [la,lb,lc,ld,lf,lg,lh])
        refine qa9 (i := 19) (by kernel_rfl) rfl (fun K hK => ?_)
        go_simp
        refine hK.out _ _ hs12 (fun hHeld => ?_)
        clear hK K
        (try simp only [la,lb,lc,ld,lf,lg,lh])
        refine qa9 (i := 20) (by kernel_rfl) rfl (fun K hK => ?_)
        go_simp
        refine hK.out _ _ hs12 (fun hHeld => ?_)
        clear hK K
        (try simp only [la,lb,lc,ld,lf,lg,lh])
        refine tk 21 ?_ rfl hHeld ?_ ?_;rotate_left
        ·intro w hSw;(try dsimp only at hSw);go_simp;try (with_reducible rfl)
        (try simp only [la,lb,lc,ld,lf,lg,lh])
        refine wpAnyL_last (i := 22) (by kernel_rfl) rfl (by kernel_rfl) (fun K hK => ?_)
        go_simp
        refine hK.out _ _ ?_
        clear hK K
        (try simp only [la,lb,lc,ld,lf,lg,lh])
        refine qam (by kernel_rfl) ?_ _
        clear hs12
        go_wp2_with fail
        go_meet
        exact RndE.mk hM1.out Q6.out O3.out (bt (qa1 X3 _) B6.out) (Nat.le_of_eq Hzd.out.symm) Hhl.out N6.out M6.out (Below.refl _ _) (Nat.le_trans (Nat.le_trans (Nat.le_of_eq Hzd.out.symm) B3.out.size) (qa1 X3 _).size)
       ·
        go_simp
        refine hK.out _ _ (HS.out _ (bt Qd.out (qa1 _ _))) (fun hHeld => ?_)
        clear hK K
        (try simp only [la,lb,lc,ld,lf,lg,lh])
        refine qa9 (i := 6) (by kernel_rfl) rfl (fun K hK => ?_)
        (go_simp;go_at_call 88;refine (HT1.out _ (bt Qd.out (qa1 _ _))).mono ?_;rintro e X3 ⟨v3,rfl,o3,b3⟩;obtain ⟨a3,n3,c3,rfl⟩ := Own.slice o3;have O3 := Lib.hid o3;have B3 := Lib.hid b3;have Q3 := Lib.hid (bt (bt Qd.out (qa1 wA.drew _)) b3);clear o3 b3)
        refine hK.out _ _ (HS.out _ Q3.out) (fun hHeld => ?_)
        clear hK K
        (try simp only [la,lb,lc,ld,lf,lg,lh])
        refine qa9 (i := 12) (by kernel_rfl) rfl (fun K hK => ?_)
        (go_simp;go_at_call 88;refine (HT2.out _ _ (lit1 (qax B3.out (qa8 wA.drew _)) Hlw.out)).mono ?_;rintro e X6 ⟨v6,rfl,o6,b6⟩;obtain ⟨g6,p6,an,mn,cn,ad,md,cd,rfl,h6,r6n,r6d⟩ := bill1 o6;have N6 := Lib.hid r6n;have M6 := Lib.hid r6d;obtain ⟨h60,h61,h62⟩ := h6 _ (Below.refl _ _);have l6 := qag h60;have B6 := Lib.hid b6;have Q6 := Lib.hid (bt Q3.out b6);have hfz := HFz.out _ Q6.out;obtain ⟨z12,z13,z14,z15,y12,y13,y14,y15,zl⟩ := hfz;clear r6n r6d h6 b6 o6)
        refine hK.out _ _ (HS.out _ Q6.out) (fun hHeld => ?_)
        clear hK K
        (try simp only [la,lb,lc,ld,lf,lg,lh])
        refine qa9 (i := 13) (by kernel_rfl) rfl (fun K hK => ?_)
        go_simp
        refine hK.out _ _ (HS.out _ Q6.out) (fun hHeld => ?_)
        clear hK K
        (try simp only [la,lb,lc,ld,lf,lg,lh])
        refine qa9 (i := 14) (by kernel_rfl) rfl (fun K hK => ?_)
        go_simp
        refine hK.out _ _ (HS.out _ Q6.out) (fun hHeld => ?_)
        clear hK K
        (try simp only [la,lb,lc,ld,lf,lg,lh])
        refine tk 15 ?_ rfl hHeld ?_ ?_;rotate_left
        ·intro w hSw;(try dsimp only at hSw);go_simp;try (with_reducible rfl)
        (try simp only [la,lb,lc,ld,lf,lg,lh])
        refine tk 16 ?_ rfl hHeld ?_ ?_;rotate_left
        ·intro w hSw;(try dsimp only at hSw);go_simp;try (with_reducible rfl)
        (try simp only [la,lb,lc,ld,lf,lg,lh])
        refine tk 17 ?_ rfl hHeld ?_ ?_;rotate_left
        ·intro w hSw;(try dsimp only at hSw);go_simp;try (with_reducible rfl)
        (try simp only [la,lb,lc,ld,lf,lg,lh])
        have hs12 := HS12.out _ (Value.slice a3 n3 c3) Q6.out
        refine qa9 (i := 18) (by kernel_rfl) rfl (fun K hK => ?_)
        go_simp
        refine hK.out _ _ hs12 (fun hHeld => ?_)
        clear hK K
        (try simp only [la,lb,lc,ld,lf,lg,lh])
        refine qa9 (i := 19) (by kernel_rfl) rfl (fun K hK => ?_)
        go_simp
        refine hK.out _ _ hs12 (fun hHeld => ?_)
        clear hK K
        (try simp only [la,lb,lc,ld,lf,lg,lh])
        refine qa9 (i := 20) (by kernel_rfl) rfl (fun K hK => ?_)
        go_simp
        refine hK.out _ _ hs12 (fun hHeld => ?_)
        clear hK K
        (try simp only [la,lb,lc,ld,lf,lg,lh])
        refine tk 21 ?_ rfl hHeld ?_ ?_;rotate_left
        ·intro w hSw;(try dsimp only at hSw);go_simp;try (with_reducible rfl)
        (try simp only [la,lb,lc,ld,lf,lg,lh])
        refine wpAnyL_last (i := 22) (by kernel_rfl) rfl (by kernel_rfl) (fun K hK => ?_)
        go_simp
        refine hK.out _ _ ?_
        clear hK K
        (try simp only [la,lb,lc,ld,lf,lg,lh])
        refine qam (by kernel_rfl) ?_ _
        clear hs12
        go_wp2_with fail
        go_meet
        exact RndE.mk hM1.out Q6.out O3.out B6.out (Nat.le_trans (Nat.le_of_eq Hzd.out.symm) (qa1 wA.drew _).size) Hhl.out N6.out M6.out (Below.refl _ _) Q3.out.size
      case rest =>
       rename World => wB
       obtain ⟨vh',vn,vd,mb,hg2,r1,r2,r3,bl⟩ := hcut
       obtain ⟨ve1,vrd1,vt1,vk1,vL1,vh1,vr1,vo1⟩ := v1
       obtain ⟨aH,nH,cH,rfl⟩ := RSl.slice r1
       obtain ⟨aN,nN,cN,rfl⟩ := RSl.slice r2
       obtain ⟨aD,nD,cD,rfl⟩ := RSl.slice r3
       obtain ⟨aE,nE,cE,hvE⟩ : ∃ a n c,vr1 = .slice a n c := Own.slice mb.or
       obtain ⟨aO,nO,cO,hvO⟩ : ∃ a n c,vo1 = .slice a n c := RSl.slice mb.oo
       obtain ⟨aR,cR,hvR⟩ : ∃ a c,vrd1 = .slice a s1.rounds.length c := Own.shape mb.ord
       subst hvE hvO
       have hrds := hE1.out.rounds
       obtain ⟨nR,hnR⟩ : ∃ n,s1.rounds.length = n := ⟨_,rfl⟩
       rw [hnR] at hvR
       subst hvR
       have hI1 : SqI C sn g1 := by rw [← Hge1.out];exact Hsq.out (i + 1)
       have hsl : g1.rounds.length = g.rounds.length + 1 := by rw [hE1.out.new];simp
       have hrl6 : s1.rounds.length ≤ 1000000 := by rw [hrds];have := hI1.rounds;omega
       have hnRg : g.rounds.length = nR := by rw [← hrds];exact hnR
       have hgrow : nR + 1 ≤ C := by have := hI1.rounds;omega
       have hms : s.rounds.length = nR := by rw [Hg0.out.2.rounds];exact hnRg
       have hcells : ∀ W : World,W.heap[k.gc]? = some (.cells (k.cellsR ⟨ve1,.slice aR nR cR,vt1,vk1,vL1,vh1,.slice aE nE cE,.slice aO nO cO⟩ s1 (.slice aH nH cH) (.bool false) (.slice aN nN cN) (.slice aD nD cD) (.slice aE nE cE) (.slice aO nO cO)) 110 (0,0)) → W.heap[k.gC]? = some (.cells #[ve1,.slice aR nR cR,vt1,k.vl] 97 (0,0)) →
         W.cell? ⟨k.gc,0,none⟩ = some (.pointer (some ⟨k.gC,0,none⟩)) ∧ W.cell? ⟨k.gC,1,none⟩ = some (.slice aR nR cR) ∧ W.cell? ⟨k.gc,12,none⟩ = some (.slice aH nH cH) ∧ W.cell? ⟨k.gc,13,none⟩ = some (.bool false) ∧ W.cell? ⟨k.gc,14,none⟩ = some (.slice aN nN cN) ∧ W.cell? ⟨k.gc,15,none⟩ = some (.slice aD nD cD) ∧ W.cell? ⟨k.gc,16,none⟩ = some (.slice aE nE cE) ∧ W.cell? ⟨k.gc,17,none⟩ = some (.slice aO nO cO) := fun W h1 h2 => by
        have e1 := (qa6 (Below.refl _ W) (qa0 h1) h1).2.1
        have e2 := (qa6 (Below.refl _ W) (qa0 h2) h2).2.1
        exact ⟨e1 0,e2 1,e1 12,e1 13,e1 14,e1 15,e1 16,e1 17⟩
       obtain ⟨Z,hZ⟩ : ∃ Z,Z = (wB.alloc (.cells #[.slice aH nH cH,.bool false,.slice aN nN cN,.slice aD nD cD,.slice aE nE cE,.slice aO nO cO] 58)).drew := ⟨_,rfl⟩
       have hbZ : Below wB.heap.size wB Z := by rw [hZ];exact bt (qa1 _ _) (Below.drew (Below.refl _ _))
       have hZb : Z.heap[wB.heap.size]? = some (.cells #[.slice aH nH cH,.bool false,.slice aN nN cN,.slice aD nD cD,.slice aE nE cE,.slice aO nO cO] 58 (0,0)) := by rw [hZ];exact qa8 wB _
       have hmZ := mb.below hbZ
       have hgZ := qax hbZ hg2
       obtain ⟨mB,rE,rO⟩ := hmZ.bare (Nat.le_trans hre1.out (by omega))
       have upR : ∀ b,k.R wB ⟨ve1,.slice aR nR cR,vt1,vk1,vL1,vh1,.slice aE nE cE,.slice aO nO cO⟩ b → k.R Z ⟨ve1,.slice aR nR cR,vt1,vk1,vL1,vh1,.slice none 0 0,.slice none 0 0⟩ b := fun b hb => ⟨hb.1,Nat.lt_of_lt_of_le hb.2.1 hbZ.size,fun i hi => by
        rcases i with _ | _ | _ | _ | _ | _ | _ | _ | _ | i
        ·exact hb.2.2 0 hi
        ·exact hb.2.2 1 hi
        ·exact hb.2.2 2 hi
        ·exact hb.2.2 3 hi
        ·exact hb.2.2 4 hi
        ·exact hb.2.2 5 hi
        ·exact hb.2.2 6 hi
        ·exact hb.2.2 7 hi
        ·cases hi
        ·cases hi⟩
       have hdec : dRnd (k.R Z ⟨ve1,.slice aR nR cR,vt1,vk1,vL1,vh1,.slice none 0 0,.slice none 0 0⟩) Z [.slice aH nH cH,.bool false,.slice aN nN cN,.slice aD nD cD,.slice aE nE cE,.slice aO nO cO] ⟨s1.had.map bill,bill s1.lost,s1.re,s1.ro⟩ :=
        ⟨_,_,_,_,_,rfl,RSl.mono (fun _ _ _ hd => dRt.mono upR hd) upR (r1.same (.of_below hbZ)),(r2.same (.of_below hbZ)).mono upR,(r3.same (.of_below hbZ)).mono upR,rE,rO⟩
       have HmB := Lib.hid mB;have Hdec := Lib.hid hdec;have HZb := Lib.hid hZb;have HgZ := Lib.hid hgZ;have HmZ := Lib.hid hmZ;have Hcells := Lib.hid hcells;have HbZ := Lib.hid hbZ;have HZ := Lib.hid hZ
       have Hrl6 := Lib.hid hrl6;have Hms := Lib.hid hms;have Hgrow := Lib.hid hgrow;have HnR := Lib.hid hnR
       have hSB : ∀ W,Below wB.heap.size wB W → W.cell? ⟨k.gc,0,none⟩ = some (.pointer (some ⟨k.gC,0,none⟩)) ∧ W.cell? ⟨k.gC,1,none⟩ = some (.slice aR nR cR) ∧ W.cell? ⟨k.gc,12,none⟩ = some (.slice aH nH cH) ∧ W.cell? ⟨k.gc,13,none⟩ = some (.bool false) ∧ W.cell? ⟨k.gc,14,none⟩ = some (.slice aN nN cN) ∧ W.cell? ⟨k.gc,15,none⟩ = some (.slice aD nD cD) ∧ W.cell? ⟨k.gc,16,none⟩ = some (.slice aE nE cE) ∧ W.cell? ⟨k.gc,17,none⟩ = some (.slice aO nO cO) := fun W hW => hcells W (qax hW hg2) (mb.below hW).bC
       have HSB := Lib.hid hSB
       have HlB : Hid (k.lo ≤ wB.heap.size) := Lib.hid (by have := mb.big;have := mb.l1;have := mb.l2;omega)
       have Hbl := Lib.hid (hb1.out.trans bl)
       have Hmx : Hid (MRel g1 { s1 with re := [],ro := [],rounds := s1.rounds ++ [⟨s1.had.map bill,bill s1.lost,s1.re,s1.ro⟩] } ∧ s1.K = g1.st) := Lib.hid (by
        refine ⟨⟨hE1.out.inn,hE1.out.el,rfl,rfl,?_,hE1.out.ties⟩,hE1.out.K⟩
        show s1.rounds ++ _ = g1.rounds
        rw [hE1.out.new,hE1.out.rounds,hE1.out.had,hE1.out.lost];rfl)
       clear mB hdec hZb hgZ hmZ hcells hbZ hZ hrl6 hms hgrow hnR hSB rE rO upR r1 r2 r3 mb hg2 hI1 hsl hrds hnRg bl hM1 hE1 hre1 hb1 HS HS12 HFz HT1 HT2
       go_upto_region 20 with fail
       refine qat (S := (fun W : World => W.cell? ⟨k.gc,0,none⟩ = some (.pointer (some ⟨k.gC,0,none⟩)) ∧ W.cell? ⟨k.gC,1,none⟩ = some (.slice aR nR cR) ∧ W.cell? ⟨k.gc,12,none⟩ = some (.slice aH nH cH) ∧ W.cell? ⟨k.gc,13,none⟩ = some (.bool false) ∧ W.cell? ⟨k.gc,14,none⟩ = some (.slice aN nN cN) ∧ W.cell? ⟨k.gc,15,none⟩ = some (.slice aD nD cD) ∧ W.cell? ⟨k.gc,16,none⟩ = some (.slice aE nE cE) ∧ W.cell? ⟨k.gc,17,none⟩ = some (.slice aO nO cO))) (L := [21]) (by kernel_rfl) (HSB.out _ (show Below wB.heap.size wB wB.drew from Below.drew (Below.refl _ wB))) (fun hHeld => ?_)
       refine tk 0 ?_ rfl hHeld ?_ ?_;rotate_left
       ·intro w hSw;(try dsimp only at hSw);go_simp;try (with_reducible rfl)
       (try simp only [la,lb,lc,ld,lf,lg,lh])
       refine tk 1 ?_ rfl hHeld ?_ ?_;rotate_left
       ·intro w hSw;(try dsimp only at hSw);go_simp;try (with_reducible rfl)
       (try simp only [la,lb,lc,ld,lf,lg,lh])
       refine tk 2 ?_ rfl hHeld ?_ ?_;rotate_left
       ·intro w hSw;(try dsimp only at hSw);go_simp;try (with_reducible rfl)
       (try simp only [la,lb,lc,ld,lf,lg,lh])
       refine tk 3 ?_ rfl hHeld ?_ ?_;rotate_left
       ·intro w hSw;(try dsimp only at hSw);go_simp;try (with_reducible rfl)
       (try simp only [la,lb,lc,ld,lf,lg,lh])
       refine tk 4 ?_ rfl hHeld ?_ ?_;rotate_left
       ·intro w hSw;(try dsimp only at hSw);go_simp;try (with_reducible rfl)
       (try simp only [la,lb,lc,ld,lf,lg,lh])
       refine tk 5 ?_ rfl hHeld ?_ ?_;rotate_left
       ·intro w hSw;(try dsimp only at hSw);go_simp;try (with_reducible rfl)
       (try simp only [la,lb,lc,ld,lf,lg,lh])
       refine tk 6 ?_ rfl hHeld ?_ ?_;rotate_left
       ·intro w hSw;(try dsimp only at hSw);go_simp;try (with_reducible rfl)
       (try simp only [la,lb,lc,ld,lf,lg,lh])
       refine tk 7 ?_ rfl hHeld ?_ ?_;rotate_left
       ·intro w hSw;(try dsimp only at hSw);go_simp;try (with_reducible rfl)
       (try simp only [la,lb,lc,ld,lf,lg,lh])
       refine tk 8 ?_ rfl hHeld ?_ ?_;rotate_left
       ·intro w hSw;(try dsimp only at hSw);go_simp;try (with_reducible rfl)
       (try simp only [la,lb,lc,ld,lf,lg,lh])
       refine tk 9 ?_ rfl hHeld ?_ ?_;rotate_left
       ·intro w hSw;(try dsimp only at hSw);go_simp;try (with_reducible rfl)
       (try simp only [la,lb,lc,ld,lf,lg,lh])
       refine tk 10 ?_ rfl hHeld ?_ ?_;rotate_left
       ·intro w hSw;(try dsimp only at hSw);go_simp;try (with_reducible rfl)
       (try simp only [la,lb,lc,ld,lf,lg,lh])
       refine tk 11 ?_ rfl hHeld ?_ ?_;rotate_left
       ·intro w hSw;(try dsimp only at hSw);go_simp;try (with_reducible rfl)
       (try simp only [la,lb,lc,ld,lf,lg,lh])
       refine tk 12 ?_ rfl hHeld ?_ ?_;rotate_left
       ·intro w hSw;(try dsimp only at hSw);go_simp;try (with_reducible rfl)
       (try simp only [la,lb,lc,ld,lf,lg,lh])
       refine tk 13 ?_ rfl hHeld ?_ ?_;rotate_left
       ·intro w hSw;(try dsimp only at hSw);go_simp;try (with_reducible rfl)
       (try simp only [la,lb,lc,ld,lf,lg,lh])
       refine tk 14 ?_ rfl hHeld ?_ ?_;rotate_left
       ·intro w hSw;(try dsimp only at hSw);go_simp;try (with_reducible rfl)
       (try simp only [la,lb,lc,ld,lf,lg,lh])
       refine tk 15 ?_ rfl hHeld ?_ ?_;rotate_left
       ·intro w hSw;(try dsimp only at hSw);go_simp;try (with_reducible rfl)
       (try simp only [la,lb,lc,ld,lf,lg,lh])
       refine qa9 (i := 16) (by kernel_rfl) rfl (fun K hK => ?_)
       (go_simp;rw [← HZ.out])
       refine hK.out _ _ (HSB.out _ HbZ.out) (fun hHeld => ?_)
       clear hK K
       (try simp only [la,lb,lc,ld,lf,lg,lh])
       refine qa9 (i := 17) (by kernel_rfl) rfl (fun K hK => ?_)
       (refine wp_appF1 _ Tryz.infoRnd rfl Tryz.underlying29 ⟨rfl,by omega,by omega,by omega⟩ (dRnd.one _) (dRnd.stable _) (k.gc + 1) HmB.out.ord (fun b hb e => hb.2.2 3 e.symm) rfl HZb.out (cs := [.slice aH nH cH,.bool false,.slice aN nN cN,.slice aD nD cD,.slice aE nE cE,.slice aO nO cO]) rfl Hdec.out rfl Hrl6.out HmB.out.big ?_;intro a9 n9 c9 w9 ho9 hg9 hm9;have Gr := HmZ.out.boxes HgZ.out hg9;have hs9 := Hcells.out _ Gr.2 Gr.1;have f9 := (qa6 (Below.refl _ w9) (qa0 Gr.1) Gr.1).2.2 1;have l9 := qa0 Gr.1;have Ho9 := Lib.hid ho9;have Hg9 := Lib.hid hg9;have Hm9 := Lib.hid hm9;have HGr := Lib.hid Gr;clear Gr ho9 hg9 hm9)
       refine hK.out _ _ hs9 (fun hHeld => ?_)
       clear hK K
       (try simp only [la,lb,lc,ld,lf,lg,lh])
       refine qa9 (i := 18) (by kernel_rfl) rfl (fun K hK => ?_)
       go_simp
       refine hK.out _ _ (Hcells.out _ HGr.out.2 HGr.out.1) (fun hHeld => ?_)
       clear hK K
       (try simp only [la,lb,lc,ld,lf,lg,lh])
       refine qa9 (i := 19) (by kernel_rfl) rfl (fun K hK => ?_)
       go_simp
       refine hK.out _ _ (Hcells.out _ HGr.out.2 HGr.out.1) (fun hHeld => ?_)
       clear hK K
       (try simp only [la,lb,lc,ld,lf,lg,lh])
       refine tk 20 ?_ rfl hHeld ?_ ?_;rotate_left
       ·intro w hSw;(try dsimp only at hSw);go_simp;try (with_reducible rfl)
       (try simp only [la,lb,lc,ld,lf,lg,lh])
       refine wpAnyL_last (i := 21) (by kernel_rfl) rfl (by kernel_rfl) (fun K hK => ?_)
       go_simp
       refine hK.out _ _ ?_
       clear hK K
       (try simp only [la,lb,lc,ld,lf,lg,lh])
       refine qam (by kernel_rfl) ?_ _
       obtain ⟨m9,k9⟩ := HmB.out.rounded Ho9.out Hg9.out Hm9.out
       have hbx9 : (w9.setCell ⟨k.gC,1,none⟩ (.slice a9 n9 c9)).heap[k.gc]? = _ := (Below.heap_setCell w9 ⟨k.gC,1,none⟩ _ k.gc (by have := HmB.out.l2;dsimp only;omega)).trans HGr.out.2
       have hbl9 : Below k.lo w1 (w9.setCell ⟨k.gC,1,none⟩ (.slice a9 n9 c9)) := (Hbl.out.trans (HbZ.out.mono HlB.out)).trans (k9.below (fun b hb hm => by
        obtain ⟨i,-,he⟩ := List.mem_map.1 hm
        have := (HmB.out.low i b he).1
        omega) (Nat.le_trans HlB.out HbZ.out.size))
       have hn9 : n9 = nR + 1 := by
        obtain ⟨_,_,hv⟩ := Own.shape Ho9.out
        simp only [Value.slice.injEq] at hv
        rw [hv.2.1,List.length_append,HnR.out];rfl
       subst hn9
       have hcl9 := (qa6 (Below.refl _ _) (qa0 m9.bC) m9.bC).2.1 1
       have HO9 : Hid (MSo k (w9.setCell ⟨k.gC,1,none⟩ (.slice a9 (nR + 1) c9)) ⟨ve1,.slice a9 (nR + 1) c9,vt1,vk1,vL1,vh1,.slice none 0 0,.slice none 0 0⟩ { s1 with re := [],ro := [],rounds := s1.rounds ++ [⟨s1.had.map bill,bill s1.lost,s1.re,s1.ro⟩] }) := Lib.hid ⟨m9,_,_,_,_,_,_,hbx9⟩
       have Hbl9 := Lib.hid hbl9;have Hcl9 := Lib.hid hcl9
       have Hmx2 : Hid (s1.K = (gs (i + 1)).st ∧ MRel (gs (i + 1)) { s1 with re := [],ro := [],rounds := s1.rounds ++ [⟨s1.had.map bill,bill s1.lost,s1.re,s1.ro⟩] }) := Lib.hid (by rw [Hge1.out];exact ⟨Hmx.out.2,Hmx.out.1⟩)
       clear m9 k9 hbx9 hbl9 hcl9 f9 l9
       go_wp2
       refine ⟨⟨i + 1,_,_,HO9,Lib.hid ⟨rfl,rfl⟩,Hmx2,Hbl9⟩,?_⟩
       have h9 : (w9.setCell ⟨k.gC,1,none⟩ (.slice a9 (nR + 1) c9)).cell? ⟨k.gC,1,none⟩ = some (.slice a9 (nR + 1) c9) := Hcl9.out
       have h10 := Hgrow.out
       rw [Hd1.out,h9,Hms.out]
       simp only [Option.getD_some,lenS]
       omega
    ·have hfin := Hend.out i (by rw [← hel, hne]; exact hlt3)
     have hv := hO.out.1.outc (by rw [hel];have := hI.most;omega) (by rw [hrl.out.2.rounds];have := hI.rounds;omega) (by rw [hrl.out.2.ties];have := hI.ties;omega)
     rw [hrl.out.2.el,hrl.out.2.rounds,hrl.out.2.ties,hfin] at hv
     obtain ⟨nd,hnd⟩ : ∃ m,s.rounds.length = m := ⟨_,rfl⟩
     obtain ⟨nt,hnt⟩ : ∃ m,s.ties.length = m := ⟨_,rfl⟩
     rw [hne] at hve
     rw [hnd] at hvd
     rw [hnt] at hvt
     rw [hvd] at d1
     rw [hvt] at d2
     rw [hve,hvd,hvt] at hv
     have hbw : Below w1.heap.size w1 wr := by rw [← Hlo.out];exact hb.out
     obtain ⟨g3,gc3,gf3⟩ := qa6 (bt q1.out hbw) (qa0 Hbo.out) Hbo.out
     have gc30 := gc3 0;have gc31 := gc3 1;have gc32 := gc3 2;have gf30 := gf3 0;have gf31 := gf3 1;have gf32 := gf3 2
     have hlt4 : w.heap.size + 1 < wr.heap.size := qa0 g3
     have HV2 := Lib.hid hv;have HFB := Lib.hid (bt Hb0.out (bt q1.out hbw))
     have Hz2 : Hid (w.heap.size + 1 < k.gc + 1) := Lib.hid (by have := qa0 Hbo.out;have := q1.out.size;have := Hlo.out;have := hO.out.1.l1;have := hO.out.1.l2;omega)
     clear hv hI hfin hne hnd hnt hO hrl hb g3 gf3 hbw hel hve hvd hvt hg hgc hgf hCc
     go_wp2
     refine bodyPost_ret (v := .tuple #[.agg #[.slice ae ne ce,.slice ad nd cd,.slice at' nt ct],.int .i64 0]) (by simp [results,Tryz.results29,go_sem,gc3]) rfl ⟨_,rfl,?_,?_⟩
     ·refine VOutc.mono (S := From (k.gc + 1)) (fun b hb => ?_) (HV2.out.same ((((Same.refl _ _).setCell ?_ _).setCell ?_ _).setCell ?_ _))
      ·have := Hz2.out;have hb : k.gc + 1 ≤ b := hb;show w.heap.size ≤ b;omega
      all_goals (intro hb;have := Hz2.out;have hb : k.gc + 1 ≤ w.heap.size + 1 := hb;omega)
     ·exact ((HFB.out.setCell (p := ⟨w.heap.size + 1,0,none⟩) (by simp) _).setCell (p := ⟨w.heap.size + 1,1,none⟩) (by simp) _).setCell (p := ⟨w.heap.size + 1,2,none⟩) (by simp) _
theorem meeCount (S T : Nat → Prop) (u v : Value) (p : Prof) (seats : Int) (lot : List Int) (w : World) (h : VProf S w u p) (hv : RInts T w v lot) (hlo : lot.length ≤ 1000000) :
  Calls Tryz.prog 29 #[u,.int .i64 seats,v] w (GivesE (rankI p seats lot) (meeV p seats lot) w) := by
 by_cases h0 : rankI p seats lot = 0
 ·rw [h0];exact meeCount_ok S T u v p seats lot w h hv h0
 ·exact meeCount_bad S T u v p seats lot w h hv hlo h0
end Go.Proofs.YthcbkhfmdginiaaGreat
