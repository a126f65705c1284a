/- Texts of one claim,put together: RefA,Push,RefB,RefC,RefD,RefE,RefF,RefG. -/
import Derived.Test.YthcbkhfmdginiaaGreatRGNat

namespace Go.Proofs.YthcbkhfmdginiaaGreat
section
open Go Go.RowKit Go.Shelf Limb

set_option maxHeartbeats 400000 in
theorem r3Check (S : Nat → Prop) (v : Value) (xs : List Int) (w : World) (h : RU S w v xs) :
  Calls Tryz.prog 206 #[v] w fun e w' => e = .returned (.int .i64 (chkN xs)) ∧ w = w' := by
 obtain ⟨a,cap,rfl,h1,h2⟩ := RSl.shape h
 by_cases hl : 96 < xs.length
 ·have hr : chkN xs = 4 := by rw [chkN, if_pos hl]
  have Hr := Lib.hid hr;clear hr h
  go_enter Tryz.func206,Tryz.ntmps206
  go_wp2
  go_ret
  exact ⟨qac Hr.out.symm,rfl⟩
 by_cases h0 : xs.length = 0
 ·have hx : xs = [] := List.eq_nil_of_length_eq_zero h0
  subst hx
  go_enter Tryz.func206,Tryz.ntmps206
  go_wp2
  go_ret
  exact ⟨rfl,rfl⟩
 obtain ⟨n,hn⟩ : ∃ n,xs.length = n + 1 := ⟨xs.length - 1,by omega⟩
 obtain ⟨b,off,rfl,-,-,hc,-,-⟩ := RU.at h (i := n) (by omega)
 have hg : xs.getD (xs.length - 1) 1 = xs[n] := by
  have e : xs.length - 1 = n := by omega
  rw [e,List.getD,List.getElem?_eq_getElem (by omega)];rfl
 have hr : chkN xs = if xs[n] = 0 then 8 else 0 := by rw [chkN,if_neg hl,hg]
 obtain ⟨x,hx⟩ : ∃ x,xs[n] = x := ⟨_,rfl⟩
 rw [hx] at hc hr
 rw [hn] at hl
 have hl1 : ¬ (96 : Int) < (n : Int) + 1 := by omega
 have hl2 : (0 : Int) < (n : Int) + 1 := by omega
 have hl3 : (n : Int) < (n : Int) + 1 := by omega
 have Hr := Lib.hid hr
 clear hr h hg hx
 generalize xs.length = L at *
 subst hn
 by_cases hx0 : x = 0
 ·subst hx0
  go_enter Tryz.func206,Tryz.ntmps206
  go_wp2
  go_ret
  exact ⟨qac (by rw [Hr.out];simp),rfl⟩
 ·have hxb : (x == 0) = false := beq_eq_false_iff_ne.2 hx0
  go_enter Tryz.func206,Tryz.ntmps206
  go_wp2
  go_ret
  exact ⟨qac (by rw [Hr.out,if_neg hx0]),rfl⟩
set_option maxHeartbeats 400000 in
theorem r3Both (S T : Nat → Prop) (u v : Value) (xs ys : List Int) (w : World) (h : RU S w u xs) (k : RU T w v ys) :
  Calls Tryz.prog 172 #[u,v] w fun e w' => e = .returned (.int .i64 (chkNN xs ys)) ∧ w = w' := by
 have h1 := r3Check S u xs w h
 have h2 := r3Check T v ys w k
 obtain ⟨c,hc⟩ : ∃ c,chkN xs = c := ⟨_,rfl⟩
 obtain ⟨d,hd⟩ : ∃ d,chkN ys = d := ⟨_,rfl⟩
 have hr : chkNN xs ys = if c ≠ 0 then c else d := by rw [chkNN,hc,hd]
 rw [hc] at h1
 rw [hd] at h2
 obtain ⟨a1,cap1,rfl,-,-⟩ := RSl.shape h
 obtain ⟨a2,cap2,rfl,-,-⟩ := RSl.shape k
 have Hr := Lib.hid hr;have H1 := Lib.hid h1;have H2 := Lib.hid h2
 clear hr h1 h2 hc hd h k
 by_cases hc0 : c = 0
 ·subst hc0
  go_enter Tryz.func172,Tryz.ntmps172
  go_wp2_with (first
   | (go_at_call_of 206 (a1);refine H1.out.mono ?_;rintro e w1 ⟨rfl,rfl⟩)
   | (go_at_call 206;refine H2.out.mono ?_;rintro e w1 ⟨rfl,rfl⟩))
  go_ret
  exact ⟨qac (by rw [Hr.out];simp),rfl⟩
 ·have hcb : (c != 0) = true := bne_iff_ne.2 hc0
  go_enter Tryz.func172,Tryz.ntmps172
  go_wp2_with (go_at_call 206;refine H1.out.mono ?_;rintro e w1 ⟨rfl,rfl⟩)
  go_ret
  exact ⟨qac (by rw [Hr.out,if_pos hc0]),rfl⟩
theorem r3Bothn (va vb : Value) (m n : Nat) (w : World) (ha : NumAt w va m) (hb : NumAt w vb n) (hla : (lim m).length ≤ 96) (hlb : (lim n).length ≤ 96) :
  Calls Tryz.prog 172 #[va,vb] w fun e w' => e = .returned (.int .i64 0) ∧ w = w' := by
 have hB := r3Both Any Any va vb _ _ w ha.ru hb.ru
 rw [chkNN,qb1 hla,qb1 hlb] at hB
 simpa using hB
set_option maxHeartbeats 400000 in
theorem r3At (S : Nat → Prop) (a : Option Addr) (L cap : Nat) (xs : List Int) (i : Int) (w : World) (h : RU S w (.slice a L cap) xs) (hL : xs.length = L) (hi : 0 ≤ i) :
  Calls Tryz.prog 207 #[.slice a L cap,.int .i64 i] w fun e w' => e = .returned (.int .u64 (xs.getD i.toNat 0)) ∧ w = w' := by
 obtain ⟨k,rfl⟩ : ∃ k : Nat,i = k := ⟨i.toNat,by omega⟩
 by_cases hk : k < L
 ·obtain ⟨b, off, rfl, -, -, hc, x0, x1⟩ := RU.at h (i := k) (by omega)
  have hr : xs.getD (Int.toNat (k : Int)) 0 = xs[k] := by rw [Int.toNat_natCast,List.getD,List.getElem?_eq_getElem (by omega)];rfl
  have hk1 : (k : Int) < (L : Int) := by omega
  obtain ⟨x,hx⟩ : ∃ x,xs[k] = x := ⟨_,rfl⟩
  rw [hx] at hc x0 x1 hr
  have hw := qa5 x0 (by omega)
  have Hr := Lib.hid hr
  clear hr h hx hL
  go_enter Tryz.func207,Tryz.ntmps207
  go_wp2
  go_ret
  exact ⟨congrArg (fun z => Ending.returned (.int .u64 z)) Hr.out.symm,rfl⟩
 ·have hr : xs.getD (Int.toNat (k : Int)) 0 = 0 := by rw [Int.toNat_natCast, List.getD, List.getElem?_eq_none (by omega)]; rfl
  have Hr := Lib.hid hr
  clear hr h hL
  go_enter Tryz.func207,Tryz.ntmps207
  go_wp2
  go_ret
  exact ⟨congrArg (fun z => Ending.returned (.int .u64 z)) Hr.out.symm,rfl⟩
def slLen : Value → Nat
 | .slice _ n _ => n
 | _ => 0
def GivesF (n : Nat) (w : World) (e : Ending) (w' : World) : Prop := ∃ a c,e = .returned (.slice a (lim n).length c) ∧ RU (From w.heap.size) w' (.slice a (lim n).length c) (lim n) ∧ Below w.heap.size w w'
def GivesN (n : Nat) (w : World) (e : Ending) (w' : World) : Prop := ∃ a c,e = .returned (.slice a (lim n).length c) ∧ NumAt w' (.slice a (lim n).length c) n ∧ Below w.heap.size w w'
set_option maxHeartbeats 1000000 in
theorem r3TrimF (S : Nat → Prop) (v : Value) (xs : List Int) (n : Nat) (w : World) (h : RU S w v xs) (hl : xs.length ≤ 1000000000) (hn : val xs = n) :
  Calls Tryz.prog 208 #[v] w (GivesF n w) := by
 have hlx := RU.lim h
 obtain ⟨a,cap,rfl,h1,h2⟩ := RSl.shape h
 have hG : ∀ w' a' c' k,k ≤ xs.length → RU (From w.heap.size) w' (.slice a' xs.length c') xs → Below w.heap.size w w' → Hid (ZeroFrom xs k) → (∀ h : 0 < k,∀ hh : k - 1 < xs.length,xs[k - 1] ≠ 0) → GivesF n w (.returned (.slice a' k c')) w' := fun w' a' c' k hk hu hb hz hne => by
  have e := trim_eq hlx hk hz.out (fun h0 => hne h0 (by omega))
  rw [hn,Int.toNat_natCast] at e
  have e2 : (lim n).length = k := by rw [← e,List.length_take];omega
  obtain ⟨a0,c0,hv,_,hlc⟩ := RSl.shape hu
  simp only [Value.slice.injEq] at hv
  have hr := RU.take hu hk (by omega : k ≤ c')
  rw [e] at hr
  exact ⟨a',c',by rw [e2],by rw [e2];exact hr,hb⟩
 have HG := Lib.hid hG
 have hb0 : Below w.heap.size w (w.alloc (.cells #[] 177)) := (Below.refl _ _).alloc (Nat.le_refl _) _
 have hu := RSl.same (dInt.stable S .u32) (.of_below hb0) h
 clear hG h hn
 go_enter Tryz.func208,Tryz.ntmps208
 go_wp2_with (at_builtin;refine wpList_app _ Tryz.infoU32 rfl rfl Tryz.underlying54 ⟨rfl,by omega,by omega⟩ (dInt.one _) (dInt.stable (fun _ => False) .u32) w.heap.size (Own.made _ _ _ _ w #[] 0 (Nat.le_refl _) (by simp [maxLen]) rfl) rfl hu rfl (by simp;omega) (by simp) ?_;intro a' c' w1 hg hat ho)
 have ho' := ho (fun _ _ h => h.elim)
 have hr0 : RSl (From w.heap.size) 1 (dInt .u32) w1 (.slice a' ([] ++ xs).length c') ([] ++ xs) := Own.rsl ho' (by simp;omega)
 have hr : RU (From w.heap.size) w1 (.slice a' xs.length c') xs := (show RSl (From w.heap.size) 1 (dInt .u32) w1 (.slice a' xs.length c') xs by simpa using hr0)
 have hb : Below w.heap.size w w1 := hb0.grown hg (by simp) (by simp [Value.ownBlock])
 have hcap : xs.length ≤ c' := by
  obtain ⟨a0,c0,hv,_,hlc⟩ := RSl.shape hr
  simp only [Value.slice.injEq] at hv
  omega
 have Hb := Lib.hid hb
 clear hr0 ho ho' hat hg hu hb0 hb
 go_loopw [3] (fun sv wr => ∃ k : Nat,sv = .slice a' k c' ∧ k ≤ xs.length ∧ Hid (ZeroFrom xs k) ∧ wr = w1) (fun sv _ => slLen sv)
 case atStart => exact ⟨xs.length,by simp,Nat.le_refl _,Lib.hid (fun i hi hk => by omega),rfl⟩
 case round =>
  obtain ⟨k,rfl,hk,hz,rfl⟩ := hrel
  cases k with
  | zero =>
   have hR := HG.out _ _ _ 0 (Nat.zero_le _) hr Hb.out hz (fun h => by omega)
   have HR := Lib.hid hR
   clear hR
   go_wp2
   go_ret
   exact HR.out
  | succ j =>
   obtain ⟨b,off,rfl,-,-,hc,-,-⟩ := RU.at hr (i := j) (by omega)
   have hji : (j : Int) < (xs.length : Int) := by omega
   have hj0 : (0 : Int) < (j : Int) + 1 := by omega
   have hj1 : (j : Int) < (j : Int) + 1 := by omega
   have hjc : j ≤ c' := by omega
   have hjc' : (j : Int) ≤ (c' : Int) := by omega
   by_cases hx : xs[j] = 0
   ·rw [hx] at hc
    have hz' : ZeroFrom xs j := fun i hi hji => by
     by_cases e : i = j
     ·subst e;exact hx
     ·exact hz.out i hi (by omega)
    have Hz := Lib.hid hz'
    clear hz' hx
    go_wp2
    exact ⟨⟨j,by simp,by omega,Hz,trivial⟩,by simp [slLen]⟩
   ·have hxb : (xs[j] == 0) = false := beq_eq_false_iff_ne.2 hx
    have hR := HG.out _ _ _ (j + 1) hk hr Hb.out hz (fun _ hh => by simpa using hx)
    have HR := Lib.hid hR
    clear hR hx
    go_wp2
    go_ret
    exact HR.out
theorem GivesF.num {n : Nat} {w : World} {e : Ending} {w' : World} : GivesF n w e w' → GivesN n w e w' := fun ⟨a,c,he,hr,hb⟩ => ⟨a,c,he,NumAt.of hr,hb⟩
theorem r3Trim (S : Nat → Prop) (v : Value) (xs : List Int) (n : Nat) (w : World) (h : RU S w v xs) (hl : xs.length ≤ 1000000000) (hn : val xs = n) :
  Calls Tryz.prog 208 #[v] w (GivesN n w) := (r3TrimF S v xs n w h hl hn).mono fun _ _ => GivesF.num
theorem RU.from {a b : Nat} {w : World} {v : Value} {xs : List Int} (h : RU (From b) w v xs) (hab : a ≤ b) : RU (From a) w v xs := RSl.mono (fun _ _ _ h => h) (fun _ h => Nat.le_trans hab h) h
end

section
open Go Go.RowKit Go.Shelf Limb

def OwnU (base : Nat) (w : World) (v : Value) (xs : List Int) : Prop := Own base 177 1 (dInt .u32) w v xs
theorem OwnU.nil (base : Nat) (w : World) : OwnU base w (.slice none 0 0) [] := Own.nil _ _ _ _ _
theorem OwnU.below {base : Nat} {w w' : World} {v : Value} {xs : List Int} (h : OwnU base w v xs) (hb : Below w.heap.size w w') : OwnU base w' v xs := Own.below (S := fun _ => False) (dInt.stable _ _) h hb
theorem OwnU.shape {base : Nat} {w : World} {v : Value} {xs : List Int} (h : OwnU base w v xs) : ∃ a c,v = .slice a xs.length c := Own.shape h
theorem OwnU.ru {base : Nat} {w : World} {v : Value} {xs : List Int} (h : OwnU base w v xs) (hl : xs.length ≤ 140737488355328) : RU Any w v xs :=
 RSl.mono (fun _ _ _ h => h) (fun _ _ => trivial) (Own.rsl h hl)
theorem qb8 {P : Program} (w : World) {ops : Array Oper} {rest : List Oper} {o : Oper} {a : Act} {Q : Exit → Act → World → Prop} {t : TypeId} (hinfo : (P.info? 177).map (fun i => (i.zero,i.size,i.bytes)) = some (some (.int .u32 0),1,4))
  (hgd : o.guard = none) {s x : Operand} (ho : o.op = .call { callee := .builtin .append,args := #[s,x],argTypes := #[t,t] }) (ht : P.underlying t = some (.slice 177))
  (base : Nat) {av : Option Addr} {n cv : Nat} {xs : List Int} (hown : OwnU base w (.slice av n cv) xs) (hs : a.eval s = .slice av n cv) {y : Int} (hy : 0 ≤ y ∧ y < 4294967296) (hx : a.eval x = .slice (some ⟨w.heap.size,0,none⟩) 1 1)
  (hn : n ≤ 1000000000) (hbase : base ≤ w.heap.size)
  (h : ∀ a' n' c' w',n' = n + 1 → OwnU base w' (.slice a' n' c') (xs ++ [y]) → Below base w w' → wpList P ops Q rest (a.put o.dst (.slice a' n' c')) w') : wpList P ops Q (o :: rest) a (w.alloc (.cells #[.int .u32 y] 177)) := by
 have hnw := qa1 w (.cells #[.int .u32 y] 177)
 have hsh := OwnU.shape hown
 obtain ⟨a0,c0,hsh⟩ := hsh
 simp only [Value.slice.injEq] at hsh
 obtain ⟨-,hnl,-⟩ := hsh
 have hlo := fun b hbk => (Own.lt hown b hbk).1
 refine wpList_app _ hinfo hgd ho ht ⟨rfl,by omega,by omega⟩ (dInt.one _) (dInt.stable (fun _ => False) .u32) base (OwnU.below hown hnw) hs (RSl.built (lo := 0) (w' := w.alloc (.cells #[.int .u32 y] 177)) (Nat.zero_le _) (qa8 w _) rfl ⟨rfl,wf_u32.2 hy⟩) hx (by simp;omega) (by simp;omega) ?_
 intro a' c' w' hg _ hO
 have hO' := hO (fun _ _ h => h.elim)
 refine h a' (xs ++ [y]).length c' w' (by simp;omega) hO' ?_
 exact (hnw.mono hbase).grown hg (by simp;omega) hlo
end

section
open Go Go.RowKit Go.Shelf Limb

set_option maxHeartbeats 1000000 in
theorem r3Less_eq (S T : Nat → Prop) (a1 a2 : Option Addr) (L c1 c2 : Nat) (xs ys : List Int) (w : World) (hx : xs.length = L) (hy : ys.length = L) (h : RU S w (.slice a1 L c1) xs) (k : RU T w (.slice a2 L c2) ys) :
  Calls Tryz.prog 176 #[.slice a1 L c1,.slice a2 L c2] w fun e w' => e = .returned (.bool (decide (val xs < val ys))) ∧ Below w.heap.size w w' := by
 have hll : L ≤ 140737488355328 := by have := (RSl.shape h).choose_spec.choose_spec.2.2;omega
 have Hx := Lib.hid hx;have Hy := Lib.hid hy
 clear hx hy
 go_enter Tryz.func176,Tryz.ntmps176
 go_wp2
 go_loopw [5] (fun i wr => ((i = .int .i64 (-1) ∧ Hid (xs.drop 0 = ys.drop 0)) ∨ ∃ j : Nat,j < L ∧ i = .int .i64 j ∧ Hid (xs.drop (j + 1) = ys.drop (j + 1))) ∧ Below w.heap.size w wr) (fun i _ => (intOf i + 1).toNat)
 case atStart =>
  refine ⟨?_,Below.refl _ _⟩
  by_cases h0 : L = 0
  ·subst h0
   exact .inl ⟨by simp,Lib.hid (by have := Hx.out;have := Hy.out;rw [List.drop_of_length_le (by omega),List.drop_of_length_le (by omega)])⟩
  ·refine .inr ⟨L - 1, by omega, ?_, Lib.hid ?_⟩
   ·congr 1;omega
   ·have := Hx.out; have := Hy.out
    rw [List.drop_of_length_le (by omega),List.drop_of_length_le (by omega)]
 case round =>
  obtain ⟨hrel,hb⟩ := hrel
  rcases hrel with ⟨rfl,hd⟩ | ⟨j,hj,rfl,hd⟩
  ·have hr : decide (val xs < val ys) = false := by
    have : xs = ys := hd.out
    rw [this];simp
   have Hr := Lib.hid hr
   clear hr
   go_wp2
   go_ret
   exact ⟨qaa Hr.out.symm,hb⟩
  ·have hjx : j < xs.length := by have := Hx.out; omega
   have hjy : j < ys.length := by have := Hy.out;omega
   obtain ⟨b,off,rfl,-,-,hc,-,-⟩ := RU.at h hjx
   obtain ⟨b2,off2,rfl,-,-,hc2,-,-⟩ := RU.at k hjy
   have hlx := RU.lim h
   have hly := RU.lim k
   have e1 := fun p => qa7 (w := wr) ((Same.of_below (S := Any) hb).cell trivial hc) p
   have e2 := fun p => qa7 (w := wr) ((Same.of_below (S := Any) hb).cell trivial hc2) p
   clear hc hc2
   have hji : (j : Int) < (L : Int) := by omega
   by_cases heq : xs[j] = ys[j]
   ·have hdj : xs.drop j = ys.drop j := by rw [List.drop_eq_getElem_cons hjx, List.drop_eq_getElem_cons hjy, heq, hd.out]
    have hnb : (xs[j] != ys[j]) = false := by simpa using heq
    have Hdj := Lib.hid hdj
    clear hdj heq h k
    go_wp2
    refine qa3 (by kernel_rfl) (by kernel_rfl) ?_
    repeat (go_big_quiet_step (fail))
    refine wpQuiet_nil ?_
    intro _ hw';obtain ⟨p,rfl⟩ := hw'
    have hb' : Below w.heap.size w (ext wr p) := hb.trans ((qa4 wr p).mono hb.size)
    go_wp2
    refine ⟨⟨?_,hb'⟩,by simp [intOf]⟩
    cases j with
    | zero => exact .inl ⟨by simp,Hdj⟩
    | succ j => exact .inr ⟨j,by omega,by congr 1;simp,Hdj⟩
   ·have hnb : (xs[j] != ys[j]) = true := by simpa using heq
    have hr : decide (val xs < val ys) = decide (xs[j] < ys[j]) := by
     rcases Int.lt_trichotomy xs[j] ys[j] with h1 | h1 | h1
     ·rw [decide_eq_true (val_lt_of hlx hly hjx hjy hd.out h1),decide_eq_true h1]
     ·exact absurd h1 heq
     ·have := val_lt_of hly hlx hjy hjx hd.out.symm h1
      rw [decide_eq_false (by omega),decide_eq_false (by omega)]
    have Hr := Lib.hid hr
    clear hr h k heq
    go_wp2
    refine qa3 (by kernel_rfl) (by kernel_rfl) ?_
    repeat (go_big_quiet_step (fail))
    refine wpQuiet_nil ?_
    intro _ hw';obtain ⟨p,rfl⟩ := hw'
    have hb' : Below w.heap.size w (ext wr p) := hb.trans ((qa4 wr p).mono hb.size)
    have e1 := fun q => qa7 (w := ext wr p) (e1 p) q
    have e2 := fun q => qa7 (w := ext wr p) (e2 p) q
    go_wp2
    refine qa3 (by kernel_rfl) (by kernel_rfl) ?_
    repeat (go_big_quiet_step (fail))
    refine wpQuiet_nil ?_
    intro _ hw';obtain ⟨q,rfl⟩ := hw'
    go_wp2
    go_ret
    exact ⟨qaa Hr.out.symm,hb'.trans ((qa4 (ext wr p) q).mono hb'.size)⟩
set_option maxHeartbeats 1000000 in
theorem r3Less (u v : Value) (m n : Nat) (w : World) (hu : NumAt w u m) (hv : NumAt w v n) :
  Calls Tryz.prog 176 #[u,v] w fun e w' => e = .returned (.bool (decide (m < n))) ∧ Below w.heap.size w w' := by
 obtain ⟨a1,cap1,rfl,h⟩ := hu
 obtain ⟨a2,cap2,rfl,k⟩ := hv
 by_cases hl : (lim m).length = (lim n).length
 case neg =>
  have hl' : (((lim m).length : Int) != ((lim n).length : Int)) = true := bne_iff_ne.2 (by omega)
  have hr : decide ((lim m).length < (lim n).length) = decide (m < n) := by
   by_cases hlt : (lim m).length < (lim n).length
   ·rw [decide_eq_true (lt_of_length hlt),decide_eq_true (by omega)]
   ·have := lt_of_length (show (lim n).length < (lim m).length by omega)
    rw [decide_eq_false (by omega),decide_eq_false (by omega)]
  have Hr := Lib.hid hr;clear hr h k hl
  go_enter Tryz.func176,Tryz.ntmps176
  go_wp2
  go_ret
  exact ⟨qaa Hr.out,Below.refl _ _⟩
 have hr : decide (val (lim m) < val (lim n)) = decide (m < n) := by
  rw [qap,qap]
  simp only [Int.ofNat_lt]
 rw [← hr]
 have := r3Less_eq Any Any a1 a2 (lim m).length cap1 cap2 (lim m) (lim n) w rfl hl.symm h (by rw [hl];exact k)
 rw [← hl]
 exact this
theorem r3AtN (S : Nat → Prop) (a : Option Addr) (L cap : Nat) (xs : List Int) (i : Nat) (w : World) (h : RU S w (.slice a L cap) xs) (hL : xs.length = L) :
  Calls Tryz.prog 207 #[.slice a L cap,.int .i64 i] w fun e w' => e = .returned (.int .u64 (xs.getD i 0)) ∧ w = w' := by
 have := r3At S a L cap xs (i : Int) w h hL (Int.natCast_nonneg i)
 rwa [Int.toNat_natCast] at this
theorem plus_step (x y c : Int) (hx0 : 0 ≤ x) (hx1 : x < 4294967296) (hy0 : 0 ≤ y) (hy1 : y < 4294967296) (hc0 : 0 ≤ c) (hc1 : c ≤ 1) :
  IntKind.u64.wrap (x + y) = x + y ∧ IntKind.u64.wrap (x + y + c) = x + y + c ∧ 0 ≤ (x + y + c) / 4294967296 ∧ (x + y + c) / 4294967296 ≤ 1 ∧ 0 ≤ (x + y + c) % 4294967296 ∧ (x + y + c) % 4294967296 < 4294967296 :=
 ⟨qa5 (by omega) (by omega),qa5 (by omega) (by omega),by omega,by omega,by omega,by omega⟩
theorem plus_val {xs ys ds : List Int} {i : Nat} {c : Int} (h1 : ds.length = i) (h2 : Lim ds) (h3 : val ds + c * pw i = val (xs.take i) + val (ys.take i)) :
  (ds ++ [(xs.getD i 0 + ys.getD i 0 + c) % 4294967296]).length = i + 1 ∧ Lim (ds ++ [(xs.getD i 0 + ys.getD i 0 + c) % 4294967296]) ∧
   val (ds ++ [(xs.getD i 0 + ys.getD i 0 + c) % 4294967296]) + (xs.getD i 0 + ys.getD i 0 + c) / 4294967296 * pw (i + 1) = val (xs.take (i + 1)) + val (ys.take (i + 1)) := by
 refine ⟨by rw [List.length_append,h1];rfl,Lim.append.2 ⟨h2,Lim.cons.2 ⟨⟨Int.emod_nonneg _ (by omega),Int.emod_lt_of_pos _ (by omega)⟩,Lim.nil⟩⟩,?_⟩
 rw [val_snoc,h1,val_take_getD,val_take_getD,qal]
 have e4 := Int.mul_ediv_add_emod (xs.getD i 0 + ys.getD i 0 + c) 4294967296
 generalize (xs.getD i 0 + ys.getD i 0 + c) / 4294967296 = q at *
 generalize (xs.getD i 0 + ys.getD i 0 + c) % 4294967296 = r at *
 grind
set_option maxHeartbeats 2000000 in
theorem r3PlusF (S T : Nat → Prop) (va vb : Value) (xs ys : List Int) (m : Nat) (w : World) (h : RU S w va xs) (k : RU T w vb ys) (hla : xs.length ≤ 1000000) (hlb : ys.length ≤ 1000000) (hm : val xs + val ys = m) :
  Calls Tryz.prog 173 #[va,vb] w (GivesF m w) := by
 have hlx := RU.lim h
 have hly := RU.lim k
 obtain ⟨a1,c1,rfl,-,-⟩ := RSl.shape h
 obtain ⟨a2,c2,rfl,-,-⟩ := RSl.shape k
 obtain ⟨La,hLa⟩ : ∃ La,xs.length = La := ⟨_,rfl⟩
 obtain ⟨Lb,hLb⟩ : ∃ Lb,ys.length = Lb := ⟨_,rfl⟩
 rw [hLa] at h hla ⊢
 rw [hLb] at k hlb ⊢
 have hA := fun W (hW : Below w.heap.size w W) (i : Nat) => r3AtN S a1 La c1 xs i W (h.below hW) hLa
 have hB := fun W (hW : Below w.heap.size w W) (i : Nat) => r3AtN T a2 Lb c2 ys i W (k.below hW) hLb
 have HA := Lib.hid hA;have HB := Lib.hid hB;have Hx := Lib.hid (And.intro hlx hLa);have Hy := Lib.hid (And.intro hly hLb);have Hm := Lib.hid hm
 clear hA hB hlx hly hLa hLb hm h k
 go_enter Tryz.func173,Tryz.ntmps173
 go_wp2
 go_loopw [5,6,7] (fun ov cv iv wr => ∃ (i : Nat) (c : Int) (ds : List Int),iv = .int .i64 i ∧ cv = .int .u64 c ∧ 0 ≤ c ∧ c ≤ 1 ∧ OwnU w.heap.size wr ov ds ∧ Hid (ds.length = i ∧ Lim ds ∧ val ds + c * pw i = val (xs.take i) + val (ys.take i)) ∧ Hid (i ≤ max La Lb ∨ (i = max La Lb + 1 ∧ c = 0)) ∧ Below w.heap.size w wr) (fun _ _ iv _ => max La Lb + 1 - (intOf iv).toNat)
 case atStart => exact ⟨0,0,[],rfl,rfl,by omega,by omega,OwnU.nil _ _,Lib.hid ⟨rfl,Lim.nil,by simp [val]⟩,Lib.hid (.inl (Nat.zero_le _)),Below.refl _ _⟩
 case round =>
  obtain ⟨i,c,ds,rfl,rfl,hc0,hc1,ho,hd,hi,hb⟩ := hrel
  obtain ⟨ao,co,hso⟩ := ho.shape
  rw [hd.out.1] at hso
  subst hso
  have hi0 := hi.out
  have hz := hb.size
  obtain ⟨x0,x1⟩ := Hx.out.1.getD i
  obtain ⟨y0,y1⟩ := Hy.out.1.getD i
  obtain ⟨q1,q2,q3,q4,q5,q6⟩ := plus_step (xs.getD i 0) (ys.getD i 0) c x0 x1 y0 y1 hc0 hc1
  have hfin := plus_val hd.out.1 hd.out.2.1 hd.out.2.2 (xs := xs) (ys := ys)
  have hAr := HA.out wr hb i
  have hBr := HB.out wr hb i
  obtain ⟨X,hX⟩ : ∃ X,xs.getD i 0 = X := ⟨_,rfl⟩
  obtain ⟨Y,hY⟩ : ∃ Y,ys.getD i 0 = Y := ⟨_,rfl⟩
  rw [hX] at hAr q1 q2 q3 q4 q5 q6 hfin
  rw [hY] at hBr q1 q2 q3 q4 q5 q6 hfin
  have hz0 : max La Lb ≤ i → X = 0 ∧ Y = 0 := fun h => by
   have := Hx.out.2;have := Hy.out.2
   rw [← hX,← hY,List.getD,List.getD,List.getElem?_eq_none (by omega),List.getElem?_eq_none (by omega)]
   exact ⟨rfl,rfl⟩
  by_cases hlast : La ≤ i ∧ Lb ≤ i ∧ c = 0
  ·obtain ⟨hi1, hi2, rfl⟩ := hlast
   have hv : val ds = (m : Int) := by
    have := hd.out.2.2
    rw [List.take_of_length_le (by have := Hx.out.2;omega),List.take_of_length_le (by have := Hy.out.2;omega),Hm.out] at this
    omega
   have hT := r3TrimF Any _ ds m wr (ho.ru (by rw [hd.out.1];omega)) (by rw [hd.out.1];omega) hv
   have hn1 : ¬ (i : Int) < (La : Int) := by omega
   have hn2 : ¬ (i : Int) < (Lb : Int) := by omega
   have HT := Lib.hid hT
   clear hT hAr hBr hfin hX hY x0 x1 y0 y1 hz0 hi0 hv
   go_wp2_with (go_at_call 208;refine HT.out.mono ?_;rintro e w2 ⟨a3,c3,rfl,hN,hb2⟩;have HN := Lib.hid hN;clear hN)
   go_ret
   exact ⟨a3,c3,rfl,HN.out.from hz,hb.trans (hb2.mono hz)⟩
  ·have hi2 : i + 1 ≤ max La Lb ∨ (i + 1 = max La Lb + 1 ∧ (X + Y + c) / 4294967296 = 0) := by
    rcases hi0 with h | ⟨h,h'⟩
    ·by_cases h2 : i = max La Lb
     ·obtain ⟨rfl, rfl⟩ := hz0 (by omega)
      right;exact ⟨by omega,by omega⟩
     ·left;omega
    ·exact absurd ⟨by omega,by omega,h'⟩ hlast
   have hin : i ≤ 1000000 := by omega
   have hmm : max La Lb + 1 - (i + 1) < max La Lb + 1 - i := by omega
   have Hi2 := Lib.hid hi2;have Hfin := Lib.hid hfin;have HAr := Lib.hid hAr;have HBr := Lib.hid hBr;have Hmm := Lib.hid hmm
   have Q5 := Lib.hid (And.intro q5 q6)
   have Q6 : (X + Y + c) % 4294967296 % 4294967296 = (X + Y + c) % 4294967296 := Int.emod_emod_of_dvd _ (by omega)
   clear hi2 hfin hX hY x0 x1 y0 y1 hz0 hi0 hAr hBr q5 q6 hi
   by_cases k1 : (i : Int) < (La : Int)
   case neg =>
    by_cases k2 : (i : Int) < (Lb : Int)
    case neg =>
     have k3 : (0 : Int) < c := by
      rcases Int.lt_or_le 0 c with h | h
      ·exact h
      ·exact absurd ⟨by omega,by omega,by omega⟩ hlast
     clear hlast hmm
     go_wp2_with (first
      | (go_at_call_of 207 (a1);refine HAr.out.mono ?_;rintro e w2 ⟨rfl,rfl⟩)
      | (go_at_call_of 207 (a2);refine HBr.out.mono ?_;rintro e w2 ⟨rfl,rfl⟩)
      | (at_builtin;go_must (refine qb8 wr Tryz.infoU32 rfl rfl Tryz.underlying54 w.heap.size ho rfl Q5.out rfl (by omega) hz ?_);intro a5 n5 c5 w5 hn5 ho5 hb5;have Ho5 := Lib.hid ho5;have Hn5 := Lib.hid hn5;clear ho5 hn5))
     exact ⟨⟨i + 1,_,_,by go_num,rfl,q3,q4,Ho5.out,Hfin.out |> Lib.hid,Hi2,hb.trans hb5⟩,by simp only [intOf];exact Hmm.out⟩
    case pos =>
     clear hlast hmm
     go_wp2_with (first
      | (go_at_call_of 207 (a1);refine HAr.out.mono ?_;rintro e w2 ⟨rfl,rfl⟩)
      | (go_at_call_of 207 (a2);refine HBr.out.mono ?_;rintro e w2 ⟨rfl,rfl⟩)
      | (at_builtin;go_must (refine qb8 wr Tryz.infoU32 rfl rfl Tryz.underlying54 w.heap.size ho rfl Q5.out rfl (by omega) hz ?_);intro a5 n5 c5 w5 hn5 ho5 hb5;have Ho5 := Lib.hid ho5;have Hn5 := Lib.hid hn5;clear ho5 hn5))
     exact ⟨⟨i + 1,_,_,by go_num,rfl,q3,q4,Ho5.out,Hfin.out |> Lib.hid,Hi2,hb.trans hb5⟩,by simp only [intOf];exact Hmm.out⟩
   case pos =>
    clear hlast hmm
    go_wp2_with (first
     | (go_at_call_of 207 (a1);refine HAr.out.mono ?_;rintro e w2 ⟨rfl,rfl⟩)
     | (go_at_call_of 207 (a2);refine HBr.out.mono ?_;rintro e w2 ⟨rfl,rfl⟩)
     | (at_builtin;go_must (refine qb8 wr Tryz.infoU32 rfl rfl Tryz.underlying54 w.heap.size ho rfl Q5.out rfl (by omega) hz ?_);intro a5 n5 c5 w5 hn5 ho5 hb5;have Ho5 := Lib.hid ho5;have Hn5 := Lib.hid hn5;clear ho5 hn5))
    exact ⟨⟨i + 1,_,_,by go_num,rfl,q3,q4,Ho5.out,Hfin.out |> Lib.hid,Hi2,hb.trans hb5⟩,by simp only [intOf];exact Hmm.out⟩
theorem r3Plus (S T : Nat → Prop) (va vb : Value) (xs ys : List Int) (m : Nat) (w : World) (h : RU S w va xs) (k : RU T w vb ys) (hla : xs.length ≤ 1000000) (hlb : ys.length ≤ 1000000) (hm : val xs + val ys = m) :
  Calls Tryz.prog 173 #[va,vb] w (GivesN m w) := (r3PlusF S T va vb xs ys m w h k hla hlb hm).mono fun _ _ => GivesF.num
end

section
open Go Go.RowKit Go.Shelf Limb

theorem minus_step (x y c : Int) (hx0 : 0 ≤ x) (hx1 : x < 4294967296) (hy0 : 0 ≤ y) (hy1 : y < 4294967296) (hc0 : 0 ≤ c) (hc1 : c ≤ 1) :
  IntKind.u64.wrap (x + 4294967296) = x + 4294967296 ∧ IntKind.u64.wrap (x + 4294967296 - y) = x + 4294967296 - y ∧ IntKind.u64.wrap (x + 4294967296 - y - c) = x + 4294967296 - y - c ∧
   IntKind.u64.wrap (1 - (x + 4294967296 - y - c) / 4294967296) = 1 - (x + 4294967296 - y - c) / 4294967296 ∧ 0 ≤ 1 - (x + 4294967296 - y - c) / 4294967296 ∧ 1 - (x + 4294967296 - y - c) / 4294967296 ≤ 1 ∧
   0 ≤ (x + 4294967296 - y - c) % 4294967296 ∧ (x + 4294967296 - y - c) % 4294967296 < 4294967296 :=
 ⟨qa5 (by omega) (by omega),qa5 (by omega) (by omega),qa5 (by omega) (by omega),qa5 (by omega) (by omega),by omega,by omega,by omega,by omega⟩
theorem minus_val {xs ys ds : List Int} {i : Nat} {c : Int} (h1 : ds.length = i) (h2 : Lim ds) (h3 : val ds - c * pw i = val (xs.take i) - val (ys.take i)) :
  (ds ++ [(xs.getD i 0 + 4294967296 - ys.getD i 0 - c) % 4294967296]).length = i + 1 ∧ Lim (ds ++ [(xs.getD i 0 + 4294967296 - ys.getD i 0 - c) % 4294967296]) ∧
   val (ds ++ [(xs.getD i 0 + 4294967296 - ys.getD i 0 - c) % 4294967296]) - (1 - (xs.getD i 0 + 4294967296 - ys.getD i 0 - c) / 4294967296) * pw (i + 1) = val (xs.take (i + 1)) - val (ys.take (i + 1)) := by
 refine ⟨by rw [List.length_append,h1];rfl,Lim.append.2 ⟨h2,Lim.cons.2 ⟨⟨Int.emod_nonneg _ (by omega),Int.emod_lt_of_pos _ (by omega)⟩,Lim.nil⟩⟩,?_⟩
 rw [val_snoc,h1,val_take_getD,val_take_getD,qal]
 have e4 := Int.mul_ediv_add_emod (xs.getD i 0 + 4294967296 - ys.getD i 0 - c) 4294967296
 generalize (xs.getD i 0 + 4294967296 - ys.getD i 0 - c) / 4294967296 = q at *
 generalize (xs.getD i 0 + 4294967296 - ys.getD i 0 - c) % 4294967296 = r at *
 grind
set_option maxHeartbeats 2000000 in
theorem r3MinusF (va vb : Value) (m n : Nat) (w : World) (ha : NumAt w va m) (hb : NumAt w vb n) (hla : (lim m).length ≤ 1000000) (hle : n ≤ m) :
  Calls Tryz.prog 177 #[va,vb] w (GivesF (m - n) w) := by
 obtain ⟨a1,c1,rfl,h⟩ := ha
 obtain ⟨a2,c2,rfl,k⟩ := hb
 have hLe := qb4 hle
 have hm : val (lim m) - val (lim n) = ((m - n : Nat) : Int) := by rw [qap,qap];omega
 obtain ⟨xs,hxs⟩ : ∃ xs,lim m = xs := ⟨_,rfl⟩
 obtain ⟨ys,hys⟩ : ∃ ys,lim n = ys := ⟨_,rfl⟩
 have hlx : Lim xs := by rw [← hxs];exact lim_Lim m
 have hly : Lim ys := by rw [← hys];exact lim_Lim n
 rw [hxs] at h hla hm hLe ⊢
 rw [hys] at k hm hLe ⊢
 obtain ⟨La,hLa⟩ : ∃ La,xs.length = La := ⟨_,rfl⟩
 obtain ⟨Lb,hLb⟩ : ∃ Lb,ys.length = Lb := ⟨_,rfl⟩
 rw [hLa] at h hla hLe ⊢
 rw [hLb] at k hLe ⊢
 have hA := fun W (hW : Below w.heap.size w W) (i : Nat) => r3AtN Any a1 La c1 xs i W (h.below hW) hLa
 have hB := fun W (hW : Below w.heap.size w W) (i : Nat) => r3AtN Any a2 Lb c2 ys i W (k.below hW) hLb
 have HA := Lib.hid hA;have HB := Lib.hid hB;have Hx := Lib.hid (And.intro hlx hLa);have Hy := Lib.hid (And.intro hly hLb);have Hm := Lib.hid hm
 clear hA hB hlx hly hLa hLb hm h k hxs hys hle
 go_enter Tryz.func177,Tryz.ntmps177
 go_wp2
 go_loopw [5,6,7] (fun ov cv iv wr => ∃ (i : Nat) (c : Int) (ds : List Int),iv = .int .i64 i ∧ cv = .int .u64 c ∧ 0 ≤ c ∧ c ≤ 1 ∧ i ≤ La ∧ OwnU w.heap.size wr ov ds ∧ Hid (ds.length = i ∧ Lim ds ∧ val ds - c * pw i = val (xs.take i) - val (ys.take i)) ∧ Below w.heap.size w wr) (fun _ _ iv _ => La - (intOf iv).toNat)
 case atStart => exact ⟨0,0,[],rfl,rfl,by omega,by omega,Nat.zero_le _,OwnU.nil _ _,Lib.hid ⟨rfl,Lim.nil,by simp [val]⟩,Below.refl _ _⟩
 case round =>
  obtain ⟨i,c,ds,rfl,rfl,hc0,hc1,hi,ho,hd,hb⟩ := hrel
  obtain ⟨ao,co,hso⟩ := ho.shape
  rw [hd.out.1] at hso
  subst hso
  have hz := hb.size
  obtain ⟨x0,x1⟩ := Hx.out.1.getD i
  obtain ⟨y0,y1⟩ := Hy.out.1.getD i
  obtain ⟨q1,q2,q3,q4,q5,q6,q7,q8⟩ := minus_step (xs.getD i 0) (ys.getD i 0) c x0 x1 y0 y1 hc0 hc1
  have hfin := minus_val hd.out.1 hd.out.2.1 hd.out.2.2 (xs := xs) (ys := ys)
  have hAr := HA.out wr hb i
  have hBr := HB.out wr hb i
  obtain ⟨X,hX⟩ : ∃ X,xs.getD i 0 = X := ⟨_,rfl⟩
  obtain ⟨Y,hY⟩ : ∃ Y,ys.getD i 0 = Y := ⟨_,rfl⟩
  rw [hX] at hAr q1 q2 q3 q4 q5 q6 q7 q8 hfin
  rw [hY] at hBr q2 q3 q4 q5 q6 q7 q8 hfin
  by_cases hlt : i < La
  ·have hiL : (i : Int) < (La : Int) := by omega
   have Hfin := Lib.hid hfin;have HAr := Lib.hid hAr;have HBr := Lib.hid hBr
   have Q5 := Lib.hid (And.intro q7 q8)
   have Q6 : (X + 4294967296 - Y - c) % 4294967296 % 4294967296 = (X + 4294967296 - Y - c) % 4294967296 := Int.emod_emod_of_dvd _ (by omega)
   clear hfin hX hY x0 x1 y0 y1 hAr hBr q7 q8
   go_wp2_with (first
    | (go_at_call_of 207 (a1);refine HAr.out.mono ?_;rintro e w2 ⟨rfl,rfl⟩)
    | (go_at_call_of 207 (a2);refine HBr.out.mono ?_;rintro e w2 ⟨rfl,rfl⟩)
    | (at_builtin;go_must (refine qb8 wr Tryz.infoU32 rfl rfl Tryz.underlying54 w.heap.size ho rfl Q5.out rfl (by omega) hz ?_);intro a5 n5 c5 w5 hn5 ho5 hb5;have Ho5 := Lib.hid ho5;have Hn5 := Lib.hid hn5;clear ho5 hn5))
   exact ⟨⟨i + 1,_,_,by go_num,rfl,q5,q6,by omega,Ho5.out,Lib.hid Hfin.out,hb.trans hb5⟩,by simp [intOf];omega⟩
  ·have hiL : i = La := by omega
   subst hiL
   have hv : val ds = ((m - n : Nat) : Int) := by
    have h3 := hd.out.2.2
    rw [List.take_of_length_le (by have := Hx.out.2;omega),List.take_of_length_le (by have := Hy.out.2;omega),Hm.out] at h3
    have h4 := val_lt hd.out.2.1
    rw [hd.out.1] at h4
    rcases (by omega : c = 0 ∨ c = 1) with rfl | rfl
    ·omega
    ·omega
   have hT := r3TrimF Any _ ds (m - n) wr (ho.ru (by rw [hd.out.1];omega)) (by rw [hd.out.1];omega) hv
   have HT := Lib.hid hT
   clear hT hAr hBr hfin hX hY x0 x1 y0 y1 hv
   go_wp2_with (go_at_call 208;refine HT.out.mono ?_;rintro e w2 ⟨a3,c3,rfl,hN,hb2⟩;have HN := Lib.hid hN;clear hN)
   go_ret
   exact ⟨a3,c3,rfl,HN.out.from hz,hb.trans (hb2.mono hz)⟩
theorem r3Minus (va vb : Value) (m n : Nat) (w : World) (ha : NumAt w va m) (hb : NumAt w vb n) (hla : (lim m).length ≤ 1000000) (hle : n ≤ m) :
  Calls Tryz.prog 177 #[va,vb] w (GivesN (m - n) w) := (r3MinusF va vb m n w ha hb hla hle).mono fun _ _ => GivesF.num
theorem half_step (x y : Int) (hx0 : 0 ≤ x) (hx1 : x < 4294967296) (hy0 : 0 ≤ y) :
  IntKind.u64.wrap ((IntKind.u64.wrap (IntKind.u64.wrap (y.tmod 2 * 4294967296) + x)).tdiv 2) % 4294967296 = (y % 2 * 4294967296 + x) / 2 := by
 rw [Int.tmod_eq_emod_of_nonneg hy0,qa5 (x := y % 2 * 4294967296) (by omega) (by omega),qa5 (x := y % 2 * 4294967296 + x) (by omega) (by omega),Int.tdiv_eq_ediv_of_nonneg (by omega),qa5 (by omega) (by omega)]
 omega
set_option maxHeartbeats 2000000 in
set_option maxRecDepth 100000 in
theorem r3Half (va : Value) (n : Nat) (w : World) (ha : NumAt w va n) (hla : (lim n).length ≤ 1000000) :
  Calls Tryz.prog 209 #[va] w (GivesN (n / 2) w) := by
 obtain ⟨a1,c1,rfl,h⟩ := ha
 obtain ⟨xs,hxs⟩ : ∃ xs,lim n = xs := ⟨_,rfl⟩
 have hlx : Lim xs := by rw [← hxs];exact lim_Lim n
 have hv : val xs = (n : Int) := by rw [← hxs,qap]
 rw [hxs] at h hla ⊢
 obtain ⟨L,hL⟩ : ∃ L,xs.length = L := ⟨_,rfl⟩
 rw [hL] at h hla ⊢
 have hA := fun W (hW : Below w.heap.size w W) (i : Nat) => r3AtN Any a1 L c1 xs i W (h.below hW) hL
 have hmk := run_make_row' (P := Tryz.prog) 54 177 (.int .u32 0) 4 Tryz.underlying54 Tryz.infoU32 rfl .i64 .i64 L (by omega) (by omega)
 have hAr := Arr.madeN (k := .u32) w L 177
 have hb0 := qa1 w (.cells (madeCells #[.int .u32 0] L) 177)
 have HA := Lib.hid hA;have Hx := Lib.hid (And.intro hlx hL);have Hv := Lib.hid hv;have HAr := Lib.hid hAr
 clear hA hAr hlx hL hxs hv
 go_enter Tryz.func209,Tryz.ntmps209
 go_wp2
 go_loopw [4] (fun iv wr => ∃ (p : Nat) (rs : List Int),iv = .int .i64 p ∧ p ≤ L ∧ Hid (Arr .u32 wr w.heap.size 177 rs) ∧ Hid (rs.length = L ∧ ∀ i,i < p → rs[i]? = some (halfAt xs i)) ∧ Below w.heap.size w wr) (fun iv _ => L - (intOf iv).toNat)
 case atStart => exact ⟨0,_,rfl,Nat.zero_le _,Lib.hid HAr.out,Lib.hid ⟨by simp,fun i hi => by omega⟩,hb0⟩
 case round =>
  obtain ⟨p,rs,rfl,hp,hAr,hrs,hb⟩ := hrel
  have hz := hb.size
  by_cases hlt : p < L
  ·have hpL : (p : Int) < (L : Int) := by omega
   have hpx : p < xs.length := by have := Hx.out.2;omega
   obtain ⟨b,off,rfl,-,-,hc,-,-⟩ := RU.at (h.below hb) hpx
   have hx0 : xs.getD p 0 = xs[p] := by rw [List.getD,List.getElem?_eq_getElem hpx];rfl
   obtain ⟨g0,g1⟩ := Hx.out.1.getD p
   obtain ⟨g2,g3⟩ := Hx.out.1.getD (p + 1)
   have hv : halfAt xs p = (xs.getD (p + 1) 0 % 2 * 4294967296 + xs.getD p 0) / 2 := rfl
   have hCa := HA.out wr.drew hb.drew (p + 1)
   obtain ⟨X,hX⟩ : ∃ X,xs.getD p 0 = X := ⟨_,rfl⟩
   obtain ⟨Y,hY⟩ : ∃ Y,xs.getD (p + 1) 0 = Y := ⟨_,rfl⟩
   rw [hX] at hx0 g0 g1 hv
   rw [hY] at g2 g3 hv hCa
   rw [← hx0] at hc
   have q1 := half_step X Y g0 g1 g2
   have q4 := qa5 g0 (by omega)
   obtain ⟨P1,hP1⟩ : ∃ P1,p + 1 = P1 := ⟨_,rfl⟩
   rw [hP1] at hCa
   have p2 : (p : Int) + 1 = (P1 : Int) := by omega
   have p4 := qbb (x := (P1 : Int)) (by omega) (by omega)
   have hpr : p < rs.length := by have := hrs.out.1;omega
   have hcr : wr.cell? ⟨w.heap.size,p,none⟩ = some (.int .u32 rs[p]) := hAr.out.cell hpr
   have hfr : wr.frozen? ⟨w.heap.size,p,none⟩ = false := hAr.out.frozen p
   have HCa := Lib.hid hCa;have HP1 := Lib.hid hP1;have Hv2 := Lib.hid hv
   have Q1 := Lib.hid q1
   clear hCa hP1 hX hY hx0 g0 g1 g2 g3 hv q1
   go_wp2
   go_region_law (first | (go_simp;go_at_call 207;refine HCa.out.mono ?_;rintro e w2 ⟨rfl,rfl⟩))
   all_goals
    go_wp2
    refine ⟨⟨P1,_,by go_num,by have := HP1.out;omega,Lib.hid (hAr.out.set p _),Lib.hid ⟨by rw [List.length_set];exact hrs.out.1,fun i hi => ?_⟩,(hb.setCell (p := ⟨w.heap.size,p,none⟩) (Nat.le_refl _) _).drew⟩,by simp [intOf];omega⟩
    by_cases hip : i = p
    ·subst hip
     rw [List.getElem?_set_self hpr,Hv2.out]
     exact congrArg some Q1.out
    ·rw [List.getElem?_set_ne (by omega)]
     exact hrs.out.2 i (by have := HP1.out;omega)
  ·have hpL : p = L := by omega
   subst hpL
   have hrl : rs = (List.range xs.length).map (halfAt xs) := by
    apply List.ext_getElem?
    intro i
    rw [Hx.out.2]
    by_cases hi : i < p
    ·rw [hrs.out.2 i hi,List.getElem?_map,List.getElem?_range hi];rfl
    ·rw [List.getElem?_eq_none (by have := hrs.out.1;omega),List.getElem?_eq_none (by simp;omega)]
   have hh := halfs Hx.out.1
   rw [← hrl,Hv.out] at hh
   have hT := r3Trim Any (.slice (some ⟨w.heap.size,0,none⟩) p p) rs (n / 2) wr (hAr.out.all trivial (Lim.wf hh.1) (by have := hrs.out.1;omega) hrs.out.1.symm (Nat.le_refl _)) (by have := hrs.out.1;omega) (by rw [hh.2];omega)
   have HT := Lib.hid hT
   clear hT hrl hh
   go_wp2_with (go_at_call 208;refine HT.out.mono ?_;rintro e w2 ⟨a3,c3,rfl,hN,hb2⟩;have HN := Lib.hid hN;clear hN)
   go_ret
   exact ⟨a3,c3,rfl,HN.out,hb.trans (hb2.mono hz)⟩
set_option maxHeartbeats 1000000 in
theorem r3Same (S T : Nat → Prop) (u v : Value) (xs ys : List Int) (w : World) (hx : RU S w u xs) (hy : RU T w v ys) :
  Calls Tryz.prog 118 #[u,v] w fun e w' => e = .returned (.bool (eqL eqInt xs ys)) ∧ Below w.heap.size w w' := by
 obtain ⟨a1,cap1,rfl,hx1,hx2⟩ := RSl.shape hx
 obtain ⟨a2,cap2,rfl,hy1,hy2⟩ := RSl.shape hy
 by_cases hl : xs.length = ys.length
 case neg =>
  have hl' : ((xs.length : Int) != (ys.length : Int)) = true := by simpa using (by omega : ¬ (xs.length : Int) = ys.length)
  have hr := eqL_ne_len (p := eqInt) hl
  have Hr := Lib.hid hr;clear hr hl
  go_enter Tryz.func118,Tryz.ntmps118
  go_wp2
  go_ret
  exact ⟨qaa Hr.out.symm,Below.refl _ _⟩
 have hl' : ((xs.length : Int) != (ys.length : Int)) = false := by simpa using (by omega : (xs.length : Int) = ys.length)
 have Hl := Lib.hid hl;clear hl
 go_enter Tryz.func118,Tryz.ntmps118
 go_wp2
 go_loopw [5] (fun i wr => ∃ k : Nat,k ≤ xs.length ∧ i = .int .i64 k ∧ Hid (∀ j (h1 : j < xs.length) (h2 : j < ys.length),j < k → eqInt xs[j] ys[j] = true) ∧ Below w.heap.size w wr) (fun i _ => xs.length - (intOf i).toNat)
 case atStart => exact ⟨0,Nat.zero_le _,rfl,Lib.hid (fun _ _ _ h => by omega),Below.refl _ _⟩
 case round =>
  obtain ⟨k,hk,rfl,hg,hb⟩ := hrel
  by_cases hlt : k < xs.length
  ·have hlt2 : k < ys.length := by have := Hl.out; omega
   obtain ⟨b,off,rfl,-,-,hc,-,-⟩ := RU.at hx hlt
   obtain ⟨b2,off2,rfl,-,-,hc2,-,-⟩ := RU.at hy hlt2
   have e1 := fun p => qa7 (w := wr) ((Same.of_below (S := Any) hb).cell trivial hc) p
   have e2 := fun p => qa7 (w := wr) ((Same.of_below (S := Any) hb).cell trivial hc2) p
   clear hc hc2
   have hlt' : (k : Int) < (ys.length : Int) := by omega
   by_cases he : xs[k] = ys[k]
   ·have he' : (xs[k] != ys[k]) = false := by simpa using he
    have He := Lib.hid he;clear he
    go_wp2
    refine qa3 (by kernel_rfl) (by kernel_rfl) ?_
    repeat (go_big_quiet_step (fail))
    refine wpQuiet_nil ?_
    intro _ hw';obtain ⟨p,rfl⟩ := hw'
    go_wp2
    refine ⟨⟨k + 1,by omega,by go_num,Lib.hid (fun j h1 h2 hj => ?_),hb.trans ((qa4 wr p).mono hb.size)⟩,by simp [intOf];omega⟩
    by_cases e : j = k
    ·subst e;simp [eqInt,He.out]
    ·exact hg.out j h1 h2 (by omega)
   ·have he' : (xs[k] != ys[k]) = true := by simpa using he
    have hr := eqL_ne_at (p := eqInt) k hlt hlt2 (by simpa [eqInt] using he)
    have Hr := Lib.hid hr;clear he hr
    go_wp2
    refine qa3 (by kernel_rfl) (by kernel_rfl) ?_
    repeat (go_big_quiet_step (fail))
    refine wpQuiet_nil ?_
    intro _ hw';obtain ⟨p,rfl⟩ := hw'
    go_wp2
    go_ret
    exact ⟨qaa Hr.out.symm,hb.trans ((qa4 wr p).mono hb.size)⟩
  ·go_wp2
   go_ret
   exact ⟨qaa (eqL_of Hl.out (fun j h1 h2 => hg.out j h1 h2 (by omega))).symm,hb⟩
end

section
open Go Go.RowKit Go.Shelf Limb

set_option maxHeartbeats 1000000 in
theorem r3Of (n : Nat) (w : World) (hn : n < 18446744073709551616) :
  Calls Tryz.prog 191 #[.int .u64 n] w (GivesN n w) := by
 obtain ⟨xs,hxs⟩ : ∃ xs,lim n = xs := ⟨_,rfl⟩
 have Hxs := Lib.hid hxs
 have hl0 : (lim n).length ≤ 2 := qah (by rw [qal,qal,pw_zero];omega)
 have Hl0 := Lib.hid hl0
 clear hxs hl0
 go_enter Tryz.func191,Tryz.ntmps191
 go_wp2
 go_loopw [0,3] (fun nv ov wr => ∃ (N k : Nat) (ds : List Int),nv = .int .u64 N ∧ N < 18446744073709551616 ∧ OwnU w.heap.size wr ov ds ∧ ds.length = k ∧ k ≤ 2 ∧ Hid (lim n = ds ++ lim N) ∧ Below w.heap.size w wr) (fun nv _ _ => (intOf nv).toNat)
 case atStart => exact ⟨n,0,[],rfl,hn,OwnU.nil _ _,rfl,by omega,Lib.hid rfl,Below.refl _ _⟩
 case round =>
  obtain ⟨N,k,ds,rfl,hN,ho,hk,hk2,hd,hb⟩ := hrel
  obtain ⟨ao,co,hso⟩ := ho.shape
  rw [hk] at hso
  subst hso
  have hz := hb.size
  have Hk := Lib.hid hk
  clear hk
  by_cases h0 : N = 0
  ·subst h0
   have hd2 := hd.out
   rw [qaj,List.append_nil] at hd2
   have hl : (lim n).length = k := by rw [hd2];exact Hk.out
   have hr := ho.ru (by have := Hk.out;omega)
   rw [← hd2] at hr
   rw [← hl] at hr ⊢
   have Hr := Lib.hid (NumAt.of hr)
   clear hr hd2 hl hk2
   go_wp2
   go_ret
   exact ⟨ao,co,rfl,Hr.out,hb⟩
  ·have hN0 : (0 : Int) < (N : Int) := by omega
   have hd2 := hd.out
   rw [lim_pos h0] at hd2
   have hk3 : k + 1 ≤ 2 := by
    have h1 := congrArg List.length hd2
    have h2 := Hl0.out
    rw [List.length_append,List.length_cons,Hk.out] at h1
    omega
   have hq : ((N : Int) % 4294967296) % 4294967296 = (N : Int) % 4294967296 := Int.emod_emod_of_dvd _ (by omega)
   have Hd2 := Lib.hid hd2;have Hk3 := Lib.hid hk3
   have Q5 : Hid (0 ≤ (N : Int) % 4294967296 ∧ (N : Int) % 4294967296 < 4294967296) := Lib.hid ⟨by omega,by omega⟩
   clear hd2 hk3 hk2
   go_wp2_with (at_builtin;go_must (refine qb8 wr Tryz.infoU32 rfl rfl Tryz.underlying54 w.heap.size ho rfl Q5.out rfl (by have := Hk3.out;omega) hz ?_);intro a5 n5 c5 w5 hn5 ho5 hb5;have Ho5 := Lib.hid ho5;have Hn5 := Lib.hid hn5;clear ho5 hn5)
   refine ⟨⟨N / 4294967296,k + 1,_,by go_num,by omega,Ho5.out,by rw [List.length_append,Hk.out];rfl,Hk3.out,Lib.hid ?_,hb.trans hb5⟩,by simp [intOf];omega⟩
   rw [Hd2.out,List.append_assoc]
   simp
set_option maxHeartbeats 1000000 in
theorem r3Cmp (va vb : Value) (m n : Nat) (w : World) (ha : NumAt w va m) (hb : NumAt w vb n) (hla : (lim m).length ≤ 96) (hlb : (lim n).length ≤ 96) :
  Calls Tryz.prog 116 #[va,vb] w fun e w' => e = .returned (.tuple #[.int .i64 (cmpN m n),.int .i64 0]) ∧ Below w.heap.size w w' := by
 have hB := r3Bothn va vb m n w ha hb hla hlb
 have hO := r3Less va vb m n w ha hb
 have hO2 := fun W (hW : Below w.heap.size w W) => r3Less vb va n m W (hb.same hW) (ha.same hW)
 obtain ⟨a1,c1,rfl⟩ := ha.shape
 obtain ⟨a2,c2,rfl⟩ := hb.shape
 obtain ⟨L1,hL1⟩ : ∃ L1,(lim m).length = L1 := ⟨_,rfl⟩
 obtain ⟨L2,hL2⟩ : ∃ L2,(lim n).length = L2 := ⟨_,rfl⟩
 rw [hL1] at hB hO hO2 ⊢
 rw [hL2] at hB hO hO2 ⊢
 rcases Nat.lt_trichotomy m n with h | h | h
 ·have hr : cmpN m n = -1 := by rw [cmpN, if_pos h]
  have hd : decide (m < n) = true := decide_eq_true h
  rw [hd] at hO
  rw [hr]
  have HB := Lib.hid hB;have HO := Lib.hid hO
  clear hB hO hO2 hr hd ha hb hL1 hL2 h hla hlb
  go_enter Tryz.func116,Tryz.ntmps116
  go_wp2_with (first
   | (go_at_call 172;refine HB.out.mono ?_;rintro e w1 ⟨rfl,rfl⟩)
   | (go_at_call 176;refine HO.out.mono ?_;rintro e w2 ⟨rfl,hb2⟩))
  go_ret2
  exact ⟨rfl,hb2⟩
 ·have hr : cmpN m n = 0 := by rw [cmpN, if_neg (by omega), if_neg (by omega)]
  have hd : decide (m < n) = false := decide_eq_false (by omega)
  have hd2 : decide (n < m) = false := decide_eq_false (by omega)
  rw [hd] at hO
  rw [hd2] at hO2
  rw [hr]
  have HB := Lib.hid hB;have HO := Lib.hid hO;have HO2 := Lib.hid hO2
  clear hB hO hO2 hr hd hd2 ha hb hL1 hL2 h hla hlb
  go_enter Tryz.func116,Tryz.ntmps116
  go_wp2_with (first
   | (go_at_call 172;refine HB.out.mono ?_;rintro e w1 ⟨rfl,rfl⟩)
   | (go_at_call 176;refine (HO2.out _ hb2).mono ?_;rintro e w3 ⟨rfl,hb3⟩)
   | (go_at_call 176;refine HO.out.mono ?_;rintro e w2 ⟨rfl,hb2⟩;have hz2 := hb2.size))
  go_ret2
  exact ⟨rfl,hb2.trans (hb3.mono hz2)⟩
 ·have hr : cmpN m n = 1 := by rw [cmpN, if_neg (by omega), if_pos h]
  have hd : decide (m < n) = false := decide_eq_false (by omega)
  have hd2 : decide (n < m) = true := decide_eq_true h
  rw [hd] at hO
  rw [hd2] at hO2
  rw [hr]
  have HB := Lib.hid hB;have HO := Lib.hid hO;have HO2 := Lib.hid hO2
  clear hB hO hO2 hr hd hd2 ha hb hL1 hL2 h hla hlb
  go_enter Tryz.func116,Tryz.ntmps116
  go_wp2_with (first
   | (go_at_call 172;refine HB.out.mono ?_;rintro e w1 ⟨rfl,rfl⟩)
   | (go_at_call 176;refine (HO2.out _ hb2).mono ?_;rintro e w3 ⟨rfl,hb3⟩)
   | (go_at_call 176;refine HO.out.mono ?_;rintro e w2 ⟨rfl,hb2⟩;have hz2 := hb2.size))
  go_ret2
  exact ⟨rfl,hb2.trans (hb3.mono hz2)⟩
end

section
open Go Go.RowKit Go.Shelf Limb

theorem OwnU.zeros (base : Nat) (w : World) (n : Nat) (hb : base ≤ w.heap.size) (hn : n ≤ 1000000) :
  OwnU base (w.alloc (.cells (madeCells #[.int .u32 0] n) 177)) (.slice (some ⟨w.heap.size,0,none⟩) n n) (List.replicate n 0) := by
 refine ⟨List.replicate n (.int .u32 0),⟨by simp,.inr ⟨w.heap.size,n,madeCells #[.int .u32 0] n,by simp,hb,qa8 w _,by simp,by simp [maxLen];omega,by rw [← Array.length_toList,toList_madeCells_one];simp,?_⟩⟩,?_⟩
 ·rw [toList_madeCells_one,List.take_of_length_le (by simp)]
 ·refine ⟨by simp, fun i hi => ?_⟩
  have hi' : i < n := by simpa using hi
  rw [Nat.mul_one,List.drop_replicate,List.take_replicate,show min 1 (n - i) = 1 by omega,List.getElem_replicate]
  exact ⟨rfl,wf_u32.2 (by omega)⟩
theorem mul_step (x y c : Int) (hx0 : 0 ≤ x) (hx1 : x < 4294967296) (hy0 : 0 ≤ y) (hy1 : y < 4294967296) (hc0 : 0 ≤ c) (hc1 : c < 4294967296) :
  IntKind.u64.wrap (x * y) = x * y ∧ IntKind.u64.wrap (x * y + c) = x * y + c ∧ 0 ≤ x * y + c ∧ (x * y + c) / 4294967296 < 4294967296 ∧ 0 ≤ (x * y + c) / 4294967296 ∧ IntKind.u64.wrap x = x ∧ IntKind.u64.wrap y = y := by
 have h0 : 0 ≤ x * y := Int.mul_nonneg hx0 hy0
 have h1 : x * y ≤ 4294967295 * 4294967295 := Int.mul_le_mul (by omega) (by omega) hy0 (by omega)
 generalize x * y = m at *
 exact ⟨qa5 (by omega) (by omega),qa5 (by omega) (by omega),by omega,by omega,by omega,qa5 (by omega) (by omega),qa5 (by omega) (by omega)⟩
theorem mul_val {xs ds : List Int} {k : Nat} {c y : Int} (hk : k < xs.length) (h1 : ds.length = k) (h2 : Lim ds) (h3 : val ds + c * pw k = val (xs.take k) * y) :
  (ds ++ [(xs[k] * y + c) % 4294967296]).length = k + 1 ∧ Lim (ds ++ [(xs[k] * y + c) % 4294967296]) ∧ val (ds ++ [(xs[k] * y + c) % 4294967296]) + (xs[k] * y + c) / 4294967296 * pw (k + 1) = val (xs.take (k + 1)) * y := by
 refine ⟨by rw [List.length_append,h1];rfl,Lim.append.2 ⟨h2,Lim.cons.2 ⟨⟨Int.emod_nonneg _ (by omega),Int.emod_lt_of_pos _ (by omega)⟩,Lim.nil⟩⟩,?_⟩
 rw [val_snoc,h1,qaq hk,qal]
 have e4 := Int.mul_ediv_add_emod (xs[k] * y + c) 4294967296
 generalize (xs[k] * y + c) / 4294967296 = q at *
 generalize (xs[k] * y + c) % 4294967296 = r at *
 grind
set_option maxHeartbeats 2000000 in
theorem r3Mul (va vb : Value) (m n : Nat) (w : World) (ha : NumAt w va m) (hb : NumAt w vb n) (hla : (lim m).length ≤ 96) (hlb : (lim n).length ≤ 96) :
  Calls Tryz.prog 111 #[va,vb] w (FitGives (m * n) w) := by
 have hB := r3Bothn va vb m n w ha hb hla hlb
 have hra := ha.ru
 have hrb := hb.ru
 obtain ⟨a1,c1,rfl⟩ := ha.shape
 obtain ⟨a2,c2,rfl⟩ := hb.shape
 obtain ⟨xs,hxs⟩ : ∃ xs,lim m = xs := ⟨_,rfl⟩
 obtain ⟨ys,hys⟩ : ∃ ys,lim n = ys := ⟨_,rfl⟩
 have hvx : val xs = (m : Int) := by rw [← hxs,qap]
 have hvy : val ys = (n : Int) := by rw [← hys,qap]
 have hlx : Lim xs := by rw [← hxs];exact lim_Lim m
 have hly : Lim ys := by rw [← hys];exact lim_Lim n
 rw [hxs] at hra hB hla ⊢
 rw [hys] at hrb hB hlb ⊢
 obtain ⟨La,hLa⟩ : ∃ La,xs.length = La := ⟨_,rfl⟩
 obtain ⟨Lb,hLb⟩ : ∃ Lb,ys.length = Lb := ⟨_,rfl⟩
 rw [hLa] at hra hB hla ⊢
 rw [hLb] at hrb hB hlb ⊢
 have HB := Lib.hid hB;have Hx := Lib.hid (And.intro hvx (And.intro hlx hLa));have Hy := Lib.hid (And.intro hvy (And.intro hly hLb))
 clear hB hvx hvy hlx hly hLa hLb hxs hys ha hb
 go_enter Tryz.func111,Tryz.ntmps111
 go_wp2_with (go_at_call 172;refine HB.out.mono ?_;rintro e w1 ⟨rfl,rfl⟩)
 go_loopw [7,8] (fun ov iv wo => ∃ (i : Nat) (v : Int),iv = .int .i64 i ∧ i ≤ Lb ∧ Hid (val (ys.take i) = v) ∧ Hid (NumAt wo ov (m * v.toNat)) ∧ Below w.heap.size w wo) (fun _ iv _ => Lb - (intOf iv).toNat)
 case atStart => exact ⟨0,0,rfl,Nat.zero_le _,Lib.hid (by simp [val]),Lib.hid (NumAt.zero w),Below.refl _ _⟩
 case round =>
  obtain ⟨i,v,rfl,hi,hv,hN,hb⟩ := hrel
  obtain ⟨a3,c3,rfl⟩ := hN.out.shape
  obtain ⟨wo,rfl⟩ : ∃ wo,wo = wr := ⟨_,rfl⟩
  have hz := hb.size
  have hv0 : 0 ≤ v := by rw [← hv.out];exact qaf (Hy.out.2.1.take i)
  obtain ⟨V,rfl⟩ : ∃ V : Nat,v = V := ⟨v.toNat,by omega⟩
  have hN2 := hN.out
  rw [Int.toNat_natCast] at hN2 ⊢
  have hVl : (lim (m * V)).length ≤ 200 := by
   refine Nat.le_trans (qah (k := La + Lb) ?_) (by omega)
   have h1 := val_lt Hx.out.2.1
   rw [Hx.out.1,Hx.out.2.2] at h1
   have h2 := val_lt (Hy.out.2.1.take i)
   rw [hv.out,List.length_take] at h2
   have h3 := pw_mono (m := min i ys.length) (n := Lb) (by have := Hy.out.2.2;omega)
   have h4 : ((m * V : Nat) : Int) = (m : Int) * (V : Int) := Int.natCast_mul _ _
   rw [h4,pw_add]
   have h5 := Int.mul_le_mul_of_nonneg_left (show (V : Int) ≤ pw Lb by omega) (show (0 : Int) ≤ (m : Int) by omega)
   have h6 := mul_lt (pw_pos Lb) h1
   omega
  have HN := Lib.hid hN2;have HVl := Lib.hid hVl
  clear hN hN2 hVl
  by_cases hlt : i < Lb
  ·have hyl : i < ys.length := by have := Hy.out.2.2; omega
   obtain ⟨b2,off2,rfl,-,-,hcy,hy0,hy1⟩ := RU.at (hrb.below hb) hyl
   have hvn := qaq hyl
   rw [hv.out] at hvn
   obtain ⟨y,hy⟩ : ∃ y,ys[i] = y := ⟨_,rfl⟩
   rw [hy] at hcy hy0 hy1 hvn
   have hcy' : ∀ W,Below wo.heap.size wo W → W.cell? ⟨b2,off2 + i,none⟩ = some (.int .u32 y) := fun W hW => cell_later hW hcy
   have hmk := run_make_row' (P := Tryz.prog) 54 177 (.int .u32 0) 4 Tryz.underlying54 Tryz.infoU32 rfl .i64 .i64 i (by omega) (by omega)
   have hO0 := OwnU.zeros wo.heap.size wo i (Nat.le_refl _) (by omega)
   have hb0 := qa1 wo (.cells (madeCells #[.int .u32 0] i) 177)
   have hiL : (i : Int) < (Lb : Int) := by omega
   have Hvn := Lib.hid hvn;have Hcy := Lib.hid hcy';have HO0 := Lib.hid hO0
   clear hvn hcy hcy' hy hO0
   go_wp2
   go_loopw [9,10,11] (fun rv cv kv wr => ∃ (k R : Nat) (c : Int) (ds : List Int) (ar : Option Addr) (cr : Nat),kv = .int .i64 k ∧ cv = .int .u64 c ∧ rv = .slice ar R cr ∧ k ≤ La ∧ 0 ≤ c ∧ c < 4294967296 ∧ R = i + k ∧ OwnU wo.heap.size wr (.slice ar R cr) (List.replicate i 0 ++ ds) ∧ Hid (ds.length = k ∧ Lim ds ∧ val ds + c * pw k = val (xs.take k) * y) ∧ Below wo.heap.size wo wr) (fun _ _ kv _ => La - (intOf kv).toNat)
   case atStart => exact ⟨0,i,0,[],_,_,rfl,rfl,rfl,Nat.zero_le _,by omega,by omega,rfl,by rw [List.append_nil];exact HO0.out,Lib.hid ⟨rfl,Lim.nil,by simp [val]⟩,hb0⟩
   case round =>
    obtain ⟨k,R,c,ds,ar,cr,rfl,rfl,rfl,hk,hc0,hc1,hR,ho,hd,hbi⟩ := hrel
    have hzi := hbi.size
    have HR := Lib.hid hR
    clear hR
    by_cases hkl : k < La
    ·have hkx : k < xs.length := by have := Hx.out.2.2; omega
     obtain ⟨b1,off1,rfl,-,-,hcx,hx0,hx1⟩ := RU.at ((hra.below hb).below hbi) hkx
     have hfin := mul_val hkx hd.out.1 hd.out.2.1 hd.out.2.2
     obtain ⟨q1,q2,q3,q4,q5,q6,q7⟩ := mul_step xs[k] y c hx0 hx1 hy0 hy1 hc0 hc1
     obtain ⟨x,hx⟩ : ∃ x,xs[k] = x := ⟨_,rfl⟩
     rw [hx] at hcx hx0 hx1 hfin q1 q2 q3 q4 q5 q6
     have e1 := fun p => qa7 (w := wr) hcx p
     have e2 := fun p => qa7 (w := wr) (Hcy.out wr hbi) p
     have hkL : (k : Int) < (La : Int) := by omega
     have Q5 : Hid (0 ≤ (x * y + c) % 4294967296 ∧ (x * y + c) % 4294967296 < 4294967296) := Lib.hid ⟨by omega,by omega⟩
     have Q6 : (x * y + c) % 4294967296 % 4294967296 = (x * y + c) % 4294967296 := Int.emod_emod_of_dvd _ (by omega)
     have Hfin := Lib.hid hfin
     clear hfin hcx hx
     go_wp2
     refine qa3 (by kernel_rfl) (by kernel_rfl) ?_
     repeat (go_big_quiet_step (fail))
     refine wpQuiet_nil ?_
     intro _ hw';obtain ⟨p,rfl⟩ := hw'
     have ho2 := ho.below (qa4 wr p)
     have hb2 := qa4 wr p
     have hz2 := hb2.size
     have Ho2 := Lib.hid ho2
     clear ho ho2
     go_wp2_with (at_builtin;go_must (refine qb8 (ext wr p) Tryz.infoU32 rfl rfl Tryz.underlying54 wo.heap.size Ho2.out rfl Q5.out rfl (by have := HR.out;omega) (by omega) ?_);intro a5 n5 c5 w5 hn5 ho5 hb5;have Ho5 := Lib.hid ho5;have Hn5 := Lib.hid hn5;clear ho5 hn5)
     refine ⟨⟨k + 1,n5,_,ds ++ [(x * y + c) % 4294967296],_,_,by go_num,rfl,rfl,by omega,q5,q4,by have := HR.out;have := Hn5.out;omega,by rw [← List.append_assoc];exact Ho5.out,Hfin.out |> Lib.hid,?_⟩,by simp [intOf];omega⟩
     exact (hbi.trans (hb2.mono hzi)).trans hb5
    ·have hkL : k = La := by omega
     subst hkL
     have hfin : ds.length = k ∧ Lim ds ∧ val ds + c * pw k = m * y := by
      refine ⟨hd.out.1,hd.out.2.1,?_⟩
      have h3 := hd.out.2.2
      rwa [List.take_of_length_le (by have := Hx.out.2.2;omega),Hx.out.1] at h3
     obtain ⟨Y,rfl⟩ : ∃ Y : Nat,y = Y := ⟨y.toNat,by omega⟩
     have hP : ∀ W a5 n5 c5,Below wo.heap.size wo W → OwnU wo.heap.size W (.slice a5 n5 c5) ((List.replicate i 0 ++ ds) ++ [c]) → n5 ≤ 1000000 →
       Calls Tryz.prog 173 #[.slice a3 (lim (m * V)).length c3,.slice a5 n5 c5] W (GivesN (m * (V + 2 ^ (32 * i) * Y)) W) := fun W a5 n5 c5 hW hO h5 => by
      obtain ⟨_,_,hs⟩ := hO.shape
      simp only [Value.slice.injEq] at hs
      refine r3Plus Any Any _ _ (lim (m * V)) ((List.replicate i 0 ++ ds) ++ [c]) _ W (HN.out.same hW).ru (hO.ru (by omega)) (by have := HVl.out;omega) (by omega) ?_
      rw [qap,val_snoc,val_append,val_zeros,List.length_append,List.length_replicate,pw_add,hfin.1]
      have e1 : ((m * (V + 2 ^ (32 * i) * Y) : Nat) : Int) = ((m * V : Nat) : Int) + pw i * (m * Y) := by
       rw [pw_nat,Nat.mul_add,Int.natCast_add]
       congr 1
       simp only [Int.natCast_mul]
       grind
      rw [e1,← hfin.2.2]
      grind
     have HP := Lib.hid hP
     have hcm : c % 4294967296 = c := Int.emod_eq_of_lt hc0 hc1
     have Q5 : Hid (0 ≤ c ∧ c < 4294967296) := Lib.hid ⟨hc0,hc1⟩
     clear hP hfin
     go_wp2_with (first
      | (at_builtin;go_must (refine qb8 wr Tryz.infoU32 rfl rfl Tryz.underlying54 wo.heap.size ho rfl Q5.out rfl (by have := HR.out;omega) hzi ?_);intro a5 n5 c5 w5 hn5 ho5 hb5;have Ho5 := Lib.hid ho5;have Hn5 := Lib.hid hn5;have hb6 := hbi.trans hb5;have hz5 := hb6.size;clear ho5 hn5)
      | (go_at_call 173;refine (HP.out _ _ _ _ hb6 Ho5.out (by have := HR.out;have := Hn5.out;omega)).mono ?_;rintro e w6 ⟨a6,c6,rfl,hN6,hb7⟩;have HN6 := Lib.hid hN6;clear hN6))
     refine ⟨⟨i + 1,((V + 2 ^ (32 * i) * Y : Nat) : Int),by go_num,by omega,Lib.hid ?_,Lib.hid (by rw [Int.toNat_natCast];exact HN6.out),(hb.trans (hb6.mono hz)).trans (hb7.mono (by omega))⟩,by simp [intOf];omega⟩
     rw [Hvn.out,Int.natCast_add,Int.natCast_mul,pw_nat]
  ·have hiL : i = Lb := by omega
   subst hiL
   have hVn : V = n := by
    have h1 := hv.out
    rw [List.take_of_length_le (by have := Hy.out.2.2;omega),Hy.out.1] at h1
    omega
   subst hVn
   by_cases hl : (lim (m * V)).length ≤ 96
   ·have hl' : ¬ (96 : Int) < ((lim (m * V)).length : Int) := by omega
    have Hl := Lib.hid hl
    clear hl
    go_wp2
    go_ret2
    exact ⟨fun _ => ⟨a3,c3,rfl,HN.out⟩,fun h => by have := Hl.out;omega,hb⟩
   ·have hl' : (96 : Int) < ((lim (m * V)).length : Int) := by omega
    have Hl := Lib.hid hl
    clear hl
    go_wp2
    go_ret2
    exact ⟨fun h => by have := Hl.out;omega,fun _ => rfl,hb⟩
end

section
open Go Go.RowKit Go.Shelf Limb

theorem RU.mono {S T : Nat → Prop} {w : World} {v : Value} {xs : List Int} (hT : ∀ b,S b → T b) (h : RU S w v xs) : RU T w v xs := RSl.mono (fun _ _ _ h => h) hT h
theorem NumAt.one (w : World) : RU Any (w.alloc (.cells #[.int .u32 1] 177)) (.slice (some ⟨w.heap.size,0,none⟩) 1 1) [1] :=
 RSl.mono (fun _ _ _ h => h) (fun _ _ => trivial) (RSl.built (lo := 0) (cs := [.int .u32 1]) (w' := w.alloc (.cells #[.int .u32 1] 177)) (Nat.zero_le _) (qa8 w _) rfl ⟨rfl,wf_u32.2 (by omega)⟩)
theorem two_pow_small {M : Nat} (h : M < 32) : (2 : Int) ^ M % 4294967296 = 2 ^ M ∧ (0 : Int) < 2 ^ M ∧ (2 : Int) ^ M < 4294967296 := by
 have h1 : 2 ^ M < 2 ^ 32 := Nat.pow_lt_pow_right (by omega) h
 have h2 := Nat.two_pow_pos M
 have e : ((2 : Int) ^ M) = ((2 ^ M : Nat) : Int) := by simp
 rw [show (2 : Nat) ^ 32 = 4294967296 from rfl] at h1
 rw [e]
 omega
set_option maxHeartbeats 4000000 in
set_option maxRecDepth 100000 in
theorem r3DivF (va vb : Value) (n d : Nat) (w : World) (ha : NumAt w va n) (hb : NumAt w vb d) (hla : (lim n).length ≤ 96) (hlb : (lim d).length ≤ 96) (hd : 0 < d) :
  Calls Tryz.prog 175 #[va,vb] w fun e w' => ∃ a c a' c',e = .returned (.tuple #[.slice a (lim (n / d)).length c,.slice a' (lim (n % d)).length c',.int .i64 0]) ∧ RU (From w.heap.size) w' (.slice a (lim (n / d)).length c) (lim (n / d)) ∧ RU (From w.heap.size) w' (.slice a' (lim (n % d)).length c') (lim (n % d)) ∧ Below w.heap.size w w' := by
 have hB := r3Bothn va vb n d w ha hb hla hlb
 have hra := ha.ru
 obtain ⟨a1,c1,rfl⟩ := ha.shape
 obtain ⟨a2,c2,rfl⟩ := hb.shape
 obtain ⟨xs,hxs⟩ : ∃ xs,lim n = xs := ⟨_,rfl⟩
 have hvx : val xs = (n : Int) := by rw [← hxs,qap]
 have hlx : Lim xs := by rw [← hxs];exact lim_Lim n
 rw [hxs] at hra hB hla
 obtain ⟨La,hLa⟩ : ∃ La,xs.length = La := ⟨_,rfl⟩
 rw [hLa] at hra hB hla
 have hd0 : (lim d).length ≠ 0 := fun e => by
  have := qad.1 (List.eq_nil_of_length_eq_zero e)
  omega
 have hn1 : (((lim d).length : Int) == 0) = false := beq_eq_false_iff_ne.2 (by omega)
 have hn2 : ¬ lim d = [] := fun e => hd0 (by rw [e];rfl)
 have hmk := run_make_row' (P := Tryz.prog) 54 177 (.int .u32 0) 4 Tryz.underlying54 Tryz.infoU32 rfl .i64 .i64 La (by omega) (by omega)
 have hA0 := Arr.madeN (k := .u32) w La 177
 have hb0 := qa1 w (.cells (madeCells #[.int .u32 0] La) 177)
 have hstart : n / 2 ^ (32 * La) = 0 := by
  refine Nat.div_eq_of_lt ?_
  have h1 := val_lt hlx
  rw [hvx,hLa,pw_nat] at h1
  exact Int.ofNat_lt.1 h1
 have HB := Lib.hid hB;have Hx := Lib.hid (And.intro hvx (And.intro hlx hLa));have Hb := Lib.hid hb;have HA0 := Lib.hid hA0;have Hst := Lib.hid hstart
 rw [hxs,hLa]
 clear hB hvx hlx hLa hxs ha hb hA0 hd0 hstart
 go_enter Tryz.func175,Tryz.ntmps175
 go_wp2_with (go_at_call 172;refine HB.out.mono ?_;rintro e w1 ⟨rfl,rfl⟩)
 go_loopw [9,10] (fun rv iv wr => ∃ (k Q R : Nat) (qs : List Int),((k = 0 ∧ iv = .int .i64 (-1)) ∨ ∃ j : Nat,k = j + 1 ∧ iv = .int .i64 j) ∧ k ≤ 32 * La ∧ Hid (RU (From (w.heap.size + 1)) wr rv (lim R)) ∧ R < d ∧ Hid (Arr .u32 wr w.heap.size 177 qs) ∧ Hid (Lim qs ∧ qs.length = La ∧ val qs = ((Q * 2 ^ k : Nat) : Int) ∧ n / 2 ^ k = Q * d + R) ∧ Below w.heap.size w wr) (fun _ iv _ => (intOf iv + 1).toNat)
 case atStart =>
  refine ⟨32 * La,0,0,_,?_,Nat.le_refl _,Lib.hid (by rw [qaj];exact RSl.nil),hd,Lib.hid HA0.out,Lib.hid ⟨Lim.zeros La,by simp,by rw [val_zeros];simp,by rw [Hst.out];simp⟩,hb0⟩
  by_cases h0 : La = 0
  ·subst h0;exact .inl ⟨rfl,rfl⟩
  ·refine .inr ⟨32 * La - 1, by omega, ?_⟩
   congr 1
   omega
 case round =>
  obtain ⟨k,Q,R,qs,hi,hk,hF,hRd,hAr,hq,hb⟩ := hrel
  have hN0 := NumAt.of hF.out
  have hN := Lib.hid hN0
  have hz1 : w.heap.size + 1 ≤ wr.heap.size := hAr.out.lt
  clear hN0
  obtain ⟨wo,rfl⟩ : ∃ wo,wo = wr := ⟨_,rfl⟩
  obtain ⟨a3,c3,rfl⟩ := hN.out.shape
  have hz := hb.size
  rcases hi with ⟨rfl,rfl⟩ | ⟨j,rfl,rfl⟩
  ·obtain ⟨hq1, hq2, hq3, hq4⟩ := hq.out
   rw [Nat.pow_zero,Nat.mul_one] at hq3
   rw [Nat.pow_zero,Nat.div_one] at hq4
   obtain ⟨e3,e4⟩ := div_of hq4 hRd
   have hT := r3TrimF Any (.slice (some ⟨w.heap.size,0,none⟩) La La) qs (n / d) wo (hAr.out.all trivial (Lim.wf hq1) (by omega) hq2.symm (Nat.le_refl _)) (by omega) (by rw [hq3,e3])
   have HT := Lib.hid hT;have He4 := Lib.hid e4
   clear hT hq1 hq2 hq3 hq4 e3 e4
   go_wp2_with (go_at_call 208;refine HT.out.mono ?_;rintro e w2 ⟨a4,c4,rfl,hN4,hb2⟩;have HN4 := Lib.hid hN4;clear hN4)
   have hN3 := RU.mono (T := From w.heap.size) (fun b hb => Nat.le_trans (Nat.le_succ _) hb) (hF.out.below hb2)
   have e4 := He4.out
   clear He4
   subst e4
   go_ret3
   exact ⟨a4,c4,a3,c3,rfl,RU.mono (fun b hb => Nat.le_trans hz hb) HN4.out,hN3,hb.trans (hb2.mono hz)⟩
  ·obtain ⟨hq1, hq2, hq3, hq4⟩ := hq.out
   obtain ⟨D,hD⟩ : ∃ D,j / 32 = D := ⟨_,rfl⟩
   obtain ⟨M,hM⟩ : ∃ M,j % 32 = M := ⟨_,rfl⟩
   have hDx : j / 32 < xs.length := by have := Hx.out.2.2;omega
   have hDq : j / 32 < qs.length := by omega
   have hbit := bit_eq Hx.out.2.1 hDx Hx.out.1
   have hroom := room hq1 hDq hq3
   have hset := val_set_bit hDq
   have hstep := bits_step hq4
   obtain ⟨b1,off1,rfl,-,-,hcx,hx0,hx1⟩ := RU.at (hra.below hb) hDx
   have hcq : wo.cell? ⟨w.heap.size,j / 32,none⟩ = some (.int .u32 qs[j / 32]) := hAr.out.cell hDq
   have hsetA := fun W (hW : Below wo.heap.size wo W) y => (hAr.out.below hW).set (j / 32) y
   have hlq := fun y (hy : 0 ≤ y ∧ y < 4294967296) => hq1.set (j / 32) hy
   have hql := hq1.get hDq
   obtain ⟨x,hx⟩ : ∃ x,xs[j / 32] = x := ⟨_,rfl⟩
   obtain ⟨y,hy⟩ : ∃ y,qs[j / 32] = y := ⟨_,rfl⟩
   obtain ⟨B,hB⟩ : ∃ B,n / 2 ^ j % 2 = B := ⟨_,rfl⟩
   have hB2 : B < 2 := by omega
   rw [hx] at hbit hcx hx0 hx1
   rw [hy] at hroom hset hcq hql
   rw [hB] at hbit hstep
   rw [hD] at hset hcx hcq hsetA hlq hDq hDx
   rw [hM] at hbit hroom hset
   have hM32 : M < 32 := by omega
   have hfr : ∀ W,Below wo.heap.size wo W → W.frozen? ⟨w.heap.size,D,none⟩ = false := fun W hW => (hAr.out.below hW).frozen D
   have hcq' : ∀ W,Below wo.heap.size wo W → W.cell? ⟨w.heap.size,D,none⟩ = some (.int .u32 y) := fun W hW => cell_later hW hcq
   have hcx' : ∀ W,Below wo.heap.size wo W → W.cell? ⟨b1,off1 + D,none⟩ = some (.int .u32 x) := fun W hW => cell_later hW hcx
   obtain ⟨p1,p2,p3⟩ := two_pow_small hM32
   have d1 : (j : Int).tdiv 32 = (D : Int) := by rw [Int.tdiv_eq_ediv_of_nonneg (by omega)];omega
   have d2 : (j : Int).tmod 32 = (M : Int) := by rw [Int.tmod_eq_emod_of_nonneg (by omega)];omega
   have d3 : (j : Int) / 32 = (D : Int) := by omega
   have d4 : (j : Int) % 32 = (M : Int) := by omega
   have d5 := qbb (x := (D : Int)) (by omega) (by omega)
   have d6 := qbb (x := (M : Int)) (by omega) (by omega)
   have d7 := qa5 (x := (M : Int)) (by omega) (by omega)
   have d8 : (D : Int) < (La : Int) := by omega
   have hy2 : (y + 2 ^ M) % 4294967296 = y + 2 ^ M := Int.emod_eq_of_lt (by omega) hroom
   have hRl : (lim R).length ≤ 96 := lim_le_of (Nat.le_of_lt hRd) hlb
   have hP1 := r3PlusF Any Any _ _ (lim R) (lim R) (2 * R) wo hN.out.ru hN.out.ru (by omega) (by omega) (by rw [qap];omega)
   have HP1 := Lib.hid hP1;have Hset := Lib.hid hset;have HsetA := Lib.hid hsetA;have Hlq := Lib.hid hlq;have Hstep := Lib.hid hstep;have HD := Lib.hid hD;have Hfr := Lib.hid hfr;have Hcq := Lib.hid hcq';have Hcx := Lib.hid hcx';have Hql := Lib.hid (And.intro hql hroom)
   clear hP1 hset hsetA hlq hstep hD hM hfr hcq hcq' hcx hcx' hq1 hq2 hq3 hq4 hx hy hB hql hroom
   have hP2 : ∀ W a c,NumAt W (.slice a (lim (2 * R)).length c) (2 * R) → Calls Tryz.prog 173 #[.slice a (lim (2 * R)).length c,.slice (some ⟨W.heap.size,0,none⟩) 1 1] (W.alloc (.cells #[.int .u32 1] 177)) (GivesF (2 * R + 1) (W.alloc (.cells #[.int .u32 1] 177))) := fun W a c h =>
    r3PlusF Any Any _ _ (lim (2 * R)) [1] (2 * R + 1) _ (h.same (qa1 _ _)).ru (NumAt.one W) (Nat.le_trans (qah (k := 97) (by have h1 := lt_of_lim R;have h2 := pw_mono hRl;rw [qal];omega)) (by omega)) (by simp) (by rw [qap,val_single];rfl)
   have hLs : ∀ W a r c,Below w.heap.size w W → NumAt W (.slice a (lim r).length c) r → Calls Tryz.prog 176 #[.slice a (lim r).length c,.slice a2 (lim d).length c2] W fun e w' => e = .returned (.bool (decide (r < d))) ∧ Below W.heap.size W w' := fun W a r c hW h =>
    r3Less _ _ r d W h (Hb.out.same hW)
   have hMi : ∀ W a r c,Below w.heap.size w W → NumAt W (.slice a (lim r).length c) r → d ≤ r → r ≤ 2 * R + 1 → Calls Tryz.prog 177 #[.slice a (lim r).length c,.slice a2 (lim d).length c2] W (GivesF (r - d) W) := fun W a r c hW h hle h2 =>
    r3MinusF _ _ r d W h (Hb.out.same hW) (Nat.le_trans (qah (k := 97) (by have h1 := lt_of_lim R;have h2 := pw_mono hRl;rw [qal];omega)) (by omega)) hle
   obtain ⟨T,hT⟩ : ∃ T : Int,(2 : Int) ^ M = T := ⟨_,rfl⟩
   rw [hT] at p1 p2 p3 hy2 hbit Hset Hql
   have HP2 := Lib.hid hP2;have HLs := Lib.hid hLs;have HMi := Lib.hid hMi
   clear hP2 hLs hMi
   rcases (by omega : B = 0 ∨ B = 1) with rfl | rfl
   ·have hbit1 : (x / T).tmod 2 = 0 := (Int.tmod_eq_emod_of_nonneg (Int.ediv_nonneg hx0 (by omega))).trans hbit
    rw [Nat.add_zero] at Hstep
    clear hbit
    by_cases hlt : 2 * R < d
    ·have hdl : decide (2 * R < d) = true := decide_eq_true (by omega)
     have Hlt := Lib.hid hdl
     have Hlt2 := Lib.hid (show 2 * R < d by omega)
     clear hdl hlt
     go_wp2_with (first
      | (go_at_call 173;refine HP1.out.mono ?_;rintro e w2 ⟨a5,c5,rfl,hF2,hb2⟩;have HN2 := Lib.hid (NumAt.of hF2);have HF2 := Lib.hid (hF2.from (a := w.heap.size + 1) hz1);have hz2 := hb2.size;have hcx2 := Hcx.out _ hb2;clear hF2)
      | (go_at_call 176;refine (HLs.out _ _ _ _ (hb.trans (hb2.mono hz)) HN2.out).mono ?_;rw [Hlt.out];rintro e w5 ⟨rfl,hb5'⟩;have hb5 := hb2.trans (hb5'.mono (by omega));have hz5 := hb5.size;have HN5 := Lib.hid (HN2.out.same hb5');have HF5 := Lib.hid (HF2.out.below hb5')))
     refine ⟨⟨j,2 * Q,2 * R,qs,(by
      cases j with
      | zero => exact .inl ⟨rfl,by go_num⟩
      | succ j => exact .inr ⟨j,rfl,by go_num⟩),by omega,HF5,Hlt2.out,Lib.hid (hAr.out.below hb5),Lib.hid ⟨hq.out.1,hq.out.2.1,?_,Hstep.out⟩,hb.trans (hb5.mono hz)⟩,by simp [intOf]⟩
     rw [hq.out.2.2.1,Nat.pow_succ]
     congr 1
     rw [Nat.mul_comm (2 ^ j) 2,← Nat.mul_assoc,Nat.mul_comm Q 2]
    ·have hdl : decide (2 * R < d) = false := decide_eq_false (by omega)
     have Hlt := Lib.hid hdl
     have Hge := Lib.hid (show d ≤ 2 * R by omega)
     clear hdl hlt
     go_wp2_with (first
      | (go_at_call 173;refine HP1.out.mono ?_;rintro e w2 ⟨a5,c5,rfl,hF2,hb2⟩;have HN2 := Lib.hid (NumAt.of hF2);have HF2 := Lib.hid (hF2.from (a := w.heap.size + 1) hz1);have hz2 := hb2.size;have hcx2 := Hcx.out _ hb2;clear hF2)
      | (go_at_call 176;refine (HLs.out _ _ _ _ (hb.trans (hb2.mono hz)) HN2.out).mono ?_;rw [Hlt.out];rintro e w5 ⟨rfl,hb5'⟩;have hb5 := hb2.trans (hb5'.mono (by omega));have hz5 := hb5.size;have HN5 := Lib.hid (HN2.out.same hb5');have HF5 := Lib.hid (HF2.out.below hb5'))
      | (go_at_call 177;refine (HMi.out _ _ _ _ (hb.trans (hb5.mono hz)) HN5.out Hge.out (by omega)).mono ?_;rintro e w6 ⟨a7,c7,rfl,hF6,hb6'⟩;have hb6 := hb5.trans (hb6'.mono (by omega));have HF6 := Lib.hid ((hF6.from (a := w.heap.size + 1) (by omega)).same (w' := w6.setCell ⟨w.heap.size,D,none⟩ (.int .u32 (y + T))) (fun b _ hS => Below.heap_setCell w6 _ _ b (fun e => by have h1 : w.heap.size + 1 ≤ b := hS;simp at e;omega)));have hcq6 := Hcq.out _ hb6;have hfr6 := Hfr.out _ hb6;clear hF6))
     refine ⟨⟨j,2 * Q + 1,2 * R - d,qs.set D (y + T),(by
      cases j with
      | zero => exact .inl ⟨rfl,by go_num⟩
      | succ j => exact .inr ⟨j,rfl,by go_num⟩),by omega,HF6,by have := Hge.out;omega,Lib.hid (HsetA.out w6 hb6 (y + T)),Lib.hid ⟨Hlq.out _ ⟨by have := Hql.out;omega,Hql.out.2⟩,by rw [List.length_set];exact hq.out.2.1,?_,?_⟩,(hb.trans (hb6.mono hz)).setCell (p := ⟨w.heap.size,D,none⟩) (Nat.le_refl _) _⟩,by simp [intOf]⟩
     ·rw [Hset.out, hq.out.2.2.1, Nat.pow_succ, ← Int.natCast_add]
      congr 1
      rw [Nat.mul_comm (2 ^ j) 2,← Nat.mul_assoc,Nat.mul_comm Q 2,Nat.add_mul,Nat.one_mul]
     ·have h1 := Hstep.out
      have h2 := Hge.out
      rw [h1,Nat.add_mul,Nat.one_mul]
      omega
   ·have hbit1 : (x / T).tmod 2 = 1 := (Int.tmod_eq_emod_of_nonneg (Int.ediv_nonneg hx0 (by omega))).trans hbit
    clear hbit
    by_cases hlt : 2 * R + 1 < d
    ·have hdl : decide (2 * R + 1 < d) = true := decide_eq_true (by omega)
     have Hlt := Lib.hid hdl
     have Hlt2 := Lib.hid (show 2 * R + 1 < d by omega)
     clear hdl hlt
     go_wp2_with (first
      | (go_at_call 173;have hzz := hz2;go_must (refine (HP2.out _ _ _ HN2.out).mono ?_);rintro e w4 ⟨a6,c6,rfl,hF4,hb3⟩;have HN4 := Lib.hid (NumAt.of hF4);have HF4 := Lib.hid (hF4.from (a := w.heap.size + 1) (by simp;omega));have hb4 := (hb2.alloc hb2.size _).trans (hb3.mono (by have := hb2.size;simp;omega));have hz4 := hb4.size;clear hF4)
      | (go_at_call 173;refine HP1.out.mono ?_;rintro e w2 ⟨a5,c5,rfl,hF2,hb2⟩;have HN2 := Lib.hid (NumAt.of hF2);have HF2 := Lib.hid (hF2.from (a := w.heap.size + 1) hz1);have hz2 := hb2.size;have hcx2 := Hcx.out _ hb2;clear hF2)
      | (go_at_call 176;refine (HLs.out _ _ _ _ (hb.trans (hb4.mono hz)) HN4.out).mono ?_;rw [Hlt.out];rintro e w5 ⟨rfl,hb5'⟩;have hb5 := hb4.trans (hb5'.mono (by omega));have hz5 := hb5.size;have HN5 := Lib.hid (HN4.out.same hb5');have HF5 := Lib.hid (HF4.out.below hb5')))
     refine ⟨⟨j,2 * Q,2 * R + 1,qs,(by
      cases j with
      | zero => exact .inl ⟨rfl,by go_num⟩
      | succ j => exact .inr ⟨j,rfl,by go_num⟩),by omega,HF5,Hlt2.out,Lib.hid (hAr.out.below hb5),Lib.hid ⟨hq.out.1,hq.out.2.1,?_,Hstep.out⟩,hb.trans (hb5.mono hz)⟩,by simp [intOf]⟩
     rw [hq.out.2.2.1,Nat.pow_succ]
     congr 1
     rw [Nat.mul_comm (2 ^ j) 2,← Nat.mul_assoc,Nat.mul_comm Q 2]
    ·have hdl : decide (2 * R + 1 < d) = false := decide_eq_false (by omega)
     have Hlt := Lib.hid hdl
     have Hge := Lib.hid (show d ≤ 2 * R + 1 by omega)
     clear hdl hlt
     go_wp2_with (first
      | (go_at_call 173;have hzz := hz2;go_must (refine (HP2.out _ _ _ HN2.out).mono ?_);rintro e w4 ⟨a6,c6,rfl,hF4,hb3⟩;have HN4 := Lib.hid (NumAt.of hF4);have HF4 := Lib.hid (hF4.from (a := w.heap.size + 1) (by simp;omega));have hb4 := (hb2.alloc hb2.size _).trans (hb3.mono (by have := hb2.size;simp;omega));have hz4 := hb4.size;clear hF4)
      | (go_at_call 173;refine HP1.out.mono ?_;rintro e w2 ⟨a5,c5,rfl,hF2,hb2⟩;have HN2 := Lib.hid (NumAt.of hF2);have HF2 := Lib.hid (hF2.from (a := w.heap.size + 1) hz1);have hz2 := hb2.size;have hcx2 := Hcx.out _ hb2;clear hF2)
      | (go_at_call 176;refine (HLs.out _ _ _ _ (hb.trans (hb4.mono hz)) HN4.out).mono ?_;rw [Hlt.out];rintro e w5 ⟨rfl,hb5'⟩;have hb5 := hb4.trans (hb5'.mono (by omega));have hz5 := hb5.size;have HN5 := Lib.hid (HN4.out.same hb5');have HF5 := Lib.hid (HF4.out.below hb5'))
      | (go_at_call 177;refine (HMi.out _ _ _ _ (hb.trans (hb5.mono hz)) HN5.out Hge.out (by omega)).mono ?_;rintro e w6 ⟨a7,c7,rfl,hF6,hb6'⟩;have hb6 := hb5.trans (hb6'.mono (by omega));have HF6 := Lib.hid ((hF6.from (a := w.heap.size + 1) (by omega)).same (w' := w6.setCell ⟨w.heap.size,D,none⟩ (.int .u32 (y + T))) (fun b _ hS => Below.heap_setCell w6 _ _ b (fun e => by have h1 : w.heap.size + 1 ≤ b := hS;simp at e;omega)));have hcq6 := Hcq.out _ hb6;have hfr6 := Hfr.out _ hb6;clear hF6))
     refine ⟨⟨j,2 * Q + 1,2 * R + 1 - d,qs.set D (y + T),(by
      cases j with
      | zero => exact .inl ⟨rfl,by go_num⟩
      | succ j => exact .inr ⟨j,rfl,by go_num⟩),by omega,HF6,by have := Hge.out;omega,Lib.hid (HsetA.out w6 hb6 (y + T)),Lib.hid ⟨Hlq.out _ ⟨by have := Hql.out;omega,Hql.out.2⟩,by rw [List.length_set];exact hq.out.2.1,?_,?_⟩,(hb.trans (hb6.mono hz)).setCell (p := ⟨w.heap.size,D,none⟩) (Nat.le_refl _) _⟩,by simp [intOf]⟩
     ·rw [Hset.out, hq.out.2.2.1, Nat.pow_succ, ← Int.natCast_add]
      congr 1
      rw [Nat.mul_comm (2 ^ j) 2,← Nat.mul_assoc,Nat.mul_comm Q 2,Nat.add_mul,Nat.one_mul]
     ·have h1 := Hstep.out
      have h2 := Hge.out
      rw [h1,Nat.add_mul,Nat.one_mul]
      omega
end

section
open Go Go.RowKit Go.Shelf Limb

theorem lim_first {n : Nat} (h : n ≠ 0) : ∃ h0 : 0 < (lim n).length,(lim n)[0] = ((n % 4294967296 : Nat) : Int) := by
 have e := lim_pos h
 refine ⟨by rw [e];simp,?_⟩
 simp only [e,List.getElem_cons_zero]
theorem pow_room {t g k : Nat} (h : 2 ^ t ≤ g) (hg : (lim g).length ≤ k) : t ≤ 32 * k := by
 have h1 := lt_of_lim g
 have h2 := pw_mono hg
 have h3 : ((2 ^ t : Nat) : Int) < pw k := by omega
 rw [pw_nat] at h3
 have h4 : 2 ^ t < 2 ^ (32 * k) := Int.ofNat_lt.1 h3
 exact Nat.le_of_lt ((Nat.pow_lt_pow_iff_right (by omega)).1 h4)
theorem even_bit (x : Nat) (b : Bool) (h : (x % 2 == 0) = b) : ((((x % 4294967296 : Nat) : Int)).tmod 2 == 0) = b := by
 rw [Int.tmod_eq_emod_of_nonneg (by omega)]
 subst h
 by_cases h1 : x % 2 = 0
 ·rw [h1]
  have : ((x % 4294967296 : Nat) : Int) % 2 = 0 := by omega
  rw [this];rfl
 ·have h2 : x % 2 = 1 := by omega
  rw [h2]
  have : ((x % 4294967296 : Nat) : Int) % 2 = 1 := by omega
  rw [this];rfl
set_option maxHeartbeats 4000000 in
set_option maxRecDepth 100000 in
theorem r3Gcd (va vb : Value) (n d : Nat) (w : World) (ha : NumAt w va n) (hb : NumAt w vb d) (hla : (lim n).length ≤ 96) (hlb : (lim d).length ≤ 96) :
  Calls Tryz.prog 174 #[va,vb] w fun e w' => ∃ a c,e = .returned (.tuple #[.slice a (lim (Nat.gcd n d)).length c,.int .i64 0]) ∧ NumAt w' (.slice a (lim (Nat.gcd n d)).length c) (Nat.gcd n d) ∧ Below w.heap.size w w' := by
 have hB := r3Bothn va vb n d w ha hb hla hlb
 have hT1 := r3Trim Any va (lim n) n w ha.ru (by omega) (qap n)
 have hT2 := fun W (hW : Below w.heap.size w W) => r3Trim Any vb (lim d) d W (hb.same hW).ru (by omega) (qap d)
 have hgl : (lim (Nat.gcd n d)).length ≤ 96 := by
  rcases Nat.eq_zero_or_pos n with rfl | h0
  ·rw [Nat.gcd_zero_left];exact hlb
  ·exact lim_le_of (Nat.gcd_le_left d h0) hla
 obtain ⟨g,hg⟩ : ∃ g,Nat.gcd n d = g := ⟨_,rfl⟩
 rw [hg] at hgl ⊢
 have hg0 : g = 0 → n = 0 ∧ d = 0 := fun h => by subst h;exact Nat.gcd_eq_zero_iff.1 hg
 obtain ⟨a1,c1,rfl⟩ := ha.shape
 obtain ⟨a2,c2,rfl⟩ := hb.shape
 obtain ⟨L1,hL1⟩ : ∃ L1,(lim n).length = L1 := ⟨_,rfl⟩
 obtain ⟨L2,hL2⟩ : ∃ L2,(lim d).length = L2 := ⟨_,rfl⟩
 have HB := Lib.hid hB;have HT1 := Lib.hid hT1;have HT2 := Lib.hid hT2;have Hg := Lib.hid hg;have Hg0 := Lib.hid hg0
 clear hB hT1 hT2 ha hb hg hg0 hL1 hL2
 go_enter Tryz.func174,Tryz.ntmps174
 go_wp2_with (first
  | (go_at_call 172;refine HB.out.mono ?_;rintro e w1 ⟨rfl,rfl⟩)
  | (go_at_call 208;refine (HT2.out _ hb2).mono ?_;rintro e w3 ⟨a4,c4,rfl,hN4,hb3⟩;have hb4 := hb2.trans (hb3.mono hz2);have HN3' := Lib.hid (HN3.out.same hb3);have HN4 := Lib.hid hN4;clear hN4)
  | (go_at_call 208;refine HT1.out.mono ?_;rintro e w2 ⟨a3,c3,rfl,hN3,hb2⟩;have hz2 := hb2.size;have HN3 := Lib.hid hN3;clear hN3))
 go_loopw [7,8,9] (fun av bv tv wr => ∃ x y t : Nat,tv = .int .i64 t ∧ Hid (NumAt wr av x) ∧ Hid (NumAt wr bv y) ∧ Hid (2 ^ t * Nat.gcd x y = g) ∧ (lim x).length ≤ 96 ∧ (lim y).length ≤ 96 ∧ t ≤ 3072 ∧ Below w.heap.size w wr) (fun av bv _ wr => numOf wr av + numOf wr bv)
 case atStart => exact ⟨n,d,0,rfl,HN3',HN4,Lib.hid (by rw [Nat.pow_zero,Nat.one_mul];exact Hg.out),hla,hlb,by omega,hb4⟩
 case round =>
  obtain ⟨x,y,t,rfl,hx,hy,hgx,hlx,hly,ht,hb⟩ := hrel
  obtain ⟨wo,rfl⟩ : ∃ wo,wo = wr := ⟨_,rfl⟩
  obtain ⟨a5,c5,rfl⟩ := hx.out.shape
  obtain ⟨a6,c6,rfl⟩ := hy.out.shape
  have hz := hb.size
  by_cases h0 : x = 0 ∨ y = 0
  ·have hP := r3Plus Any Any _ _ (lim x) (lim y) (Nat.gcd x y) wo hx.out.ru hy.out.ru (by omega) (by omega) (by
    rw [qap,qap]
    rcases h0 with rfl | rfl
    ·rw [Nat.gcd_zero_left];omega
    ·rw [Nat.gcd_zero_right];omega)
   obtain ⟨z,hz0⟩ : ∃ z,Nat.gcd x y = z := ⟨_,rfl⟩
   rw [hz0] at hP
   have hgz : 2 ^ t * z = g := by rw [← hz0];exact hgx.out
   have Hgz := Lib.hid hgz
   have HP := Lib.hid hP
   clear hP hz0 hgz
   have HE : ∀ (a7 : Option Addr) (c7 : Nat) (w7 : World) (k : Nat),k ≤ t → NumAt w7 (.slice a7 (lim (2 ^ k * z)).length c7) (2 ^ k * z) → Calls Tryz.prog 173 #[.slice a7 (lim (2 ^ k * z)).length c7,.slice a7 (lim (2 ^ k * z)).length c7] w7 (GivesN (2 ^ (k + 1) * z) w7) := fun a7 c7 w7 k hk h => by
    have hl : (lim (2 ^ k * z)).length ≤ 96 := by
     refine lim_le_of ?_ hgl
     rw [← Hgz.out]
     exact Nat.mul_le_mul_right z (Nat.pow_le_pow_right (by omega) hk)
    refine r3Plus Any Any _ _ _ _ _ w7 h.ru h.ru (by omega) (by omega) ?_
    rw [qap,Nat.pow_succ,Nat.mul_comm (2 ^ k) 2,Nat.mul_assoc]
    omega
   have HE := Lib.hid HE
   rcases h0 with rfl | rfl
   ·have hl0 : (lim 0).length = 0 := by rw [qaj]; rfl
    rw [hl0] at HP ⊢
    clear hl0
    go_wp2_with (go_at_call 173;refine HP.out.mono ?_;rintro e w7 ⟨a7,c7,rfl,hN7,hb7⟩;have HN7 := Lib.hid hN7;clear hN7)
    go_loopw [12,13] (fun cv kv wr => ∃ k : Nat,kv = .int .i64 k ∧ k ≤ t ∧ Hid (NumAt wr cv (2 ^ k * z)) ∧ Below w.heap.size w wr) (fun _ kv _ => t - (intOf kv).toNat)
    case atStart => exact ⟨0,rfl,Nat.zero_le _,Lib.hid (by rw [Nat.pow_zero,Nat.one_mul];exact HN7.out),hb.trans (hb7.mono hz)⟩
    case round =>
     obtain ⟨k,rfl,hk,hN8,hb8⟩ := hrel
     obtain ⟨a8,c8,rfl⟩ := hN8.out.shape
     have hz8 := hb8.size
     by_cases hkt : k < t
     ·have hkt' : (k : Int) < (t : Int) := by omega
      go_wp2_with (go_at_call 173;refine (HE.out _ _ _ _ hk hN8.out).mono ?_;rintro e w9 ⟨a9,c9,rfl,hN9,hb9⟩;have HN9 := Lib.hid hN9;clear hN9)
      exact ⟨⟨k + 1,by go_num,by omega,HN9,hb8.trans (hb9.mono hz8)⟩,by simp [intOf];omega⟩
     ·have hkt' : k = t := by omega
      subst hkt'
      have hgz := Hgz.out
      rw [hgz] at hN8 ⊢
      clear hgz
      go_wp2
      go_ret2
      exact ⟨a8,c8,rfl,hN8.out,hb8⟩
   ·have hl0 : (lim 0).length = 0 := by rw [qaj]; rfl
    rw [hl0] at HP ⊢
    clear hl0
    by_cases hx0 : x = 0
    ·subst hx0
     have hl0 : (lim 0).length = 0 := by rw [qaj];rfl
     rw [hl0] at HP ⊢
     clear hl0
     go_wp2_with (go_at_call 173;refine HP.out.mono ?_;rintro e w7 ⟨a7,c7,rfl,hN7,hb7⟩;have HN7 := Lib.hid hN7;clear hN7)
     go_loopw [12,13] (fun cv kv wr => ∃ k : Nat,kv = .int .i64 k ∧ k ≤ t ∧ Hid (NumAt wr cv (2 ^ k * z)) ∧ Below w.heap.size w wr) (fun _ kv _ => t - (intOf kv).toNat)
     case atStart => exact ⟨0,rfl,Nat.zero_le _,Lib.hid (by rw [Nat.pow_zero,Nat.one_mul];exact HN7.out),hb.trans (hb7.mono hz)⟩
     case round =>
      obtain ⟨k,rfl,hk,hN8,hb8⟩ := hrel
      obtain ⟨a8,c8,rfl⟩ := hN8.out.shape
      have hz8 := hb8.size
      by_cases hkt : k < t
      ·have hkt' : (k : Int) < (t : Int) := by omega
       go_wp2_with (go_at_call 173;refine (HE.out _ _ _ _ hk hN8.out).mono ?_;rintro e w9 ⟨a9,c9,rfl,hN9,hb9⟩;have HN9 := Lib.hid hN9;clear hN9)
       exact ⟨⟨k + 1,by go_num,by omega,HN9,hb8.trans (hb9.mono hz8)⟩,by simp [intOf];omega⟩
      ·have hkt' : k = t := by omega
       subst hkt'
       have hgz := Hgz.out
       rw [hgz] at hN8 ⊢
       clear hgz
       go_wp2
       go_ret2
       exact ⟨a8,c8,rfl,hN8.out,hb8⟩
    ·have hxl : (0 : Int) < ((lim x).length : Int) := by
      have : (lim x).length ≠ 0 := fun e => hx0 (qad.1 (List.eq_nil_of_length_eq_zero e))
      omega
     have hxl1 : 0 < (lim x).length := by omega
     have hxl2 : ¬ lim x = [] := fun e => hx0 (qad.1 e)
     go_wp2_with (go_at_call 173;refine HP.out.mono ?_;rintro e w7 ⟨a7,c7,rfl,hN7,hb7⟩;have HN7 := Lib.hid hN7;clear hN7)
     go_loopw [12,13] (fun cv kv wr => ∃ k : Nat,kv = .int .i64 k ∧ k ≤ t ∧ Hid (NumAt wr cv (2 ^ k * z)) ∧ Below w.heap.size w wr) (fun _ kv _ => t - (intOf kv).toNat)
     case atStart => exact ⟨0,rfl,Nat.zero_le _,Lib.hid (by rw [Nat.pow_zero,Nat.one_mul];exact HN7.out),hb.trans (hb7.mono hz)⟩
     case round =>
      obtain ⟨k,rfl,hk,hN8,hb8⟩ := hrel
      obtain ⟨a8,c8,rfl⟩ := hN8.out.shape
      have hz8 := hb8.size
      by_cases hkt : k < t
      ·have hkt' : (k : Int) < (t : Int) := by omega
       go_wp2_with (go_at_call 173;refine (HE.out _ _ _ _ hk hN8.out).mono ?_;rintro e w9 ⟨a9,c9,rfl,hN9,hb9⟩;have HN9 := Lib.hid hN9;clear hN9)
       exact ⟨⟨k + 1,by go_num,by omega,HN9,hb8.trans (hb9.mono hz8)⟩,by simp [intOf];omega⟩
      ·have hkt' : k = t := by omega
       subst hkt'
       have hgz := Hgz.out
       rw [hgz] at hN8 ⊢
       clear hgz
       go_wp2
       go_ret2
       exact ⟨a8,c8,rfl,hN8.out,hb8⟩
  ·have hx0 : x ≠ 0 := fun e => h0 (.inl e)
   have hy0 : y ≠ 0 := fun e => h0 (.inr e)
   obtain ⟨kx,ex⟩ := lim_first hx0
   obtain ⟨ky,ey⟩ := lim_first hy0
   have kx1 : (0 : Int) < ((lim x).length : Int) := by omega
   have ky1 : (0 : Int) < ((lim y).length : Int) := by omega
   have kx2 : ¬ lim x = [] := fun e => hx0 (qad.1 e)
   have ky2 : ¬ lim y = [] := fun e => hy0 (qad.1 e)
   obtain ⟨b1,off1,rfl,-,-,hcx,-,-⟩ := RU.at hx.out.ru kx
   obtain ⟨b2,off2,rfl,-,-,hcy,-,-⟩ := RU.at hy.out.ru ky
   rw [ex,Nat.add_zero] at hcx
   rw [ey,Nat.add_zero] at hcy
   have hgp : 0 < Nat.gcd x y := Nat.gcd_pos_of_pos_left y (by omega)
   have hH1 := fun W (hW : Below wo.heap.size wo W) => r3Half _ x W (hx.out.same hW) (by omega)
   have hH2 := fun W (hW : Below wo.heap.size wo W) => r3Half _ y W (hy.out.same hW) (by omega)
   have hLs := fun W (hW : Below wo.heap.size wo W) => r3Less _ _ x y W (hx.out.same hW) (hy.out.same hW)
   have hnx := qbc hx.out
   have hny := qbc hy.out
   have e1 := fun p => qa7 (w := wo) hcx p
   have e2 := fun p => qa7 (w := wo) hcy p
   have lx2 := lim_le_of (Nat.div_le_self x 2) hlx
   have ly2 := lim_le_of (Nat.div_le_self y 2) hly
   obtain ⟨X,hX⟩ : ∃ X : Int,((x % 4294967296 : Nat) : Int) = X := ⟨_,rfl⟩
   obtain ⟨Y,hY⟩ : ∃ Y : Int,((y % 4294967296 : Nat) : Int) = Y := ⟨_,rfl⟩
   have hpx := fun b => even_bit x b
   have hpy := fun b => even_bit y b
   rw [hX] at e1 hpx
   rw [hY] at e2 hpy
   have HH1 := Lib.hid hH1;have HH2 := Lib.hid hH2;have HLs := Lib.hid hLs;have Hnx := Lib.hid hnx;have Hny := Lib.hid hny
   have hm : Below wo.heap.size wo wo := Below.refl _ _
   clear hH1 hH2 hLs hnx hny hX hY ex ey hcx hcy hm h0
   rcases (by omega : x % 2 = 0 ∨ x % 2 = 1) with kpx | kpx <;> rcases (by omega : y % 2 = 0 ∨ y % 2 = 1) with kpy | kpy
   ·have qx : (X.tmod 2 == 0) = true := hpx _ (by simp; omega)
    have qy : (Y.tmod 2 == 0) = true := hpy _ (by simp;omega)
    have Qx := Lib.hid kpx;have Qy := Lib.hid kpy
    clear hpx hpy kpx kpy
    go_wp2
    refine qa3 (by kernel_rfl) (by kernel_rfl) ?_
    repeat (go_big_quiet_step (fail))
    refine wpQuiet_nil ?_
    intro _ hw';obtain ⟨p,rfl⟩ := hw'
    have hbx := qa4 wo p
    have hzx := hbx.size
    go_wp2_with (first
     | (go_at_call_of 209 (b2);refine (HH2.out _ hb7').mono ?_;rintro e w8 ⟨a8,c8,rfl,hN8,hb8⟩;have HN8 := Lib.hid hN8;have HN7' := Lib.hid (HN7.out.same hb8);have hb8' := hb7'.trans (hb8.mono hz7);clear hN8)
     | (go_at_call_of 209 (b1);refine (HH1.out _ hbx).mono ?_;rintro e w7 ⟨a7,c7,rfl,hN7,hb7⟩;have HN7 := Lib.hid hN7;have hb7' := hbx.trans (hb7.mono hzx);have hz7 := hb7'.size;clear hN7))
    refine ⟨⟨x / 2,y / 2,t + 1,by go_num,HN7',HN8,Lib.hid ?_,by first | omega | assumption,by first | omega | assumption,?_,hb.trans (hb8'.mono hz)⟩,?_⟩
    ·rw [← hgx.out,gcd_even x y Qx.out Qy.out,Nat.pow_succ,Nat.mul_assoc]
    ·have h1 : 2 ^ (t + 1) ≤ g := by
      rw [← hgx.out,Nat.pow_succ]
      have h2 : 2 ≤ Nat.gcd x y := by rw [gcd_even x y Qx.out Qy.out];have := Nat.gcd_pos_of_pos_left (y / 2) (show 0 < x / 2 by have := Qx.out;omega);omega
      exact Nat.mul_le_mul_left _ h2
     have := pow_room h1 hgl
     omega
    ·have k1 := qbc HN7'.out
     have k2 := qbc HN8.out
     have k3 := Hnx.out
     have k4 := Hny.out
     show numOf w8 _ + numOf w8 _ < numOf wo _ + numOf wo _
     rw [k3,k4]
     refine Nat.lt_of_le_of_lt (Nat.le_of_eq (congr (congrArg (· + ·) k1) k2)) ?_
     have := Qx.out;have := Qy.out;omega
   ·have qx : (X.tmod 2 == 0) = true := hpx _ (by simp; omega)
    have qy : (Y.tmod 2 == 0) = false := hpy _ (by simp;omega)
    have Qx := Lib.hid kpx;have Qy := Lib.hid kpy
    clear hpx hpy kpx kpy
    have hyB := hy.out
    have HyB := Lib.hid hyB;clear hyB
    go_wp2
    refine qa3 (by kernel_rfl) (by kernel_rfl) ?_
    repeat (go_big_quiet_step (fail))
    refine wpQuiet_nil ?_
    intro _ hw';obtain ⟨p,rfl⟩ := hw'
    have hbx := qa4 wo p
    have hzx := hbx.size
    go_wp2_with (first
     | (go_at_call_of 209 (b1);refine (HH1.out _ hbx).mono ?_;rintro e w7 ⟨a7,c7,rfl,hN7,hb7⟩;have HN7 := Lib.hid hN7;have hb7' := hbx.trans (hb7.mono hzx);have hz7 := hb7'.size;clear hN7))
    have HY7 := Lib.hid (HyB.out.same hb7')
    refine ⟨⟨x / 2,y,t,by go_num,HN7,HY7,Lib.hid ?_,by first | omega | assumption,by first | omega | assumption,?_,hb.trans (hb7'.mono hz)⟩,?_⟩
    ·rw [← hgx.out,gcd_half x y Qx.out Qy.out]
    ·omega
    ·have k1 := qbc HN7.out
     have k2 := qbc HY7.out
     have k3 := Hnx.out
     have k4 := Hny.out
     show numOf w7 _ + numOf w7 _ < numOf wo _ + numOf wo _
     rw [k3,k4]
     refine Nat.lt_of_le_of_lt (Nat.le_of_eq (congr (congrArg (· + ·) k1) k2)) ?_
     have := Qx.out;have := Qy.out;omega
   ·have qx : (X.tmod 2 == 0) = false := hpx _ (by simp; omega)
    have qy : (Y.tmod 2 == 0) = true := hpy _ (by simp;omega)
    have Qx := Lib.hid kpx;have Qy := Lib.hid kpy
    clear hpx hpy kpx kpy
    go_wp2
    refine qa3 (by kernel_rfl) (by kernel_rfl) ?_
    repeat (go_big_quiet_step (fail))
    refine wpQuiet_nil ?_
    intro _ hw';obtain ⟨p,rfl⟩ := hw'
    have hbx := qa4 wo p
    have hzx := hbx.size
    go_wp2_with (first
     | (go_at_call_of 209 (b2);refine (HH2.out _ hbx).mono ?_;rintro e w7 ⟨a7,c7,rfl,hN7,hb7⟩;have HN7 := Lib.hid hN7;have hb7' := hbx.trans (hb7.mono hzx);have hz7 := hb7'.size;clear hN7))
    have HX7 := Lib.hid (hx.out.same hb7')
    refine ⟨⟨x,y / 2,t,by go_num,HX7,HN7,Lib.hid ?_,by first | omega | assumption,by first | omega | assumption,?_,hb.trans (hb7'.mono hz)⟩,?_⟩
    ·rw [← hgx.out,gcd_half' x y Qx.out Qy.out]
    ·omega
    ·have k1 := qbc HX7.out
     have k2 := qbc HN7.out
     have k3 := Hnx.out
     have k4 := Hny.out
     show numOf w7 _ + numOf w7 _ < numOf wo _ + numOf wo _
     rw [k3,k4]
     refine Nat.lt_of_le_of_lt (Nat.le_of_eq (congr (congrArg (· + ·) k1) k2)) ?_
     have := Qx.out;have := Qy.out;omega
   ·by_cases hlt : x < y
    ·have qx : (X.tmod 2 == 0) = false := hpx _ (by simp; omega)
     have qy : (Y.tmod 2 == 0) = false := hpy _ (by simp;omega)
     have Qx := Lib.hid kpx;have Qy := Lib.hid kpy
     have hdl : decide (x < y) = true := decide_eq_true (by omega)
     have hMi := fun W (hW : Below wo.heap.size wo W) => r3Minus _ _ y x W (hy.out.same hW) (hx.out.same hW) (by omega) (by omega)
     have Hxy := Lib.hid (show x ≤ y by omega)
     have ly3 := lim_le_of (Nat.sub_le y x) hly
     have Hdl := Lib.hid hdl;have HMi := Lib.hid hMi
     clear hpx hpy kpx kpy hdl hMi hlt
     go_wp2
     refine qa3 (by kernel_rfl) (by kernel_rfl) ?_
     repeat (go_big_quiet_step (fail))
     refine wpQuiet_nil ?_
     intro _ hw';obtain ⟨p,rfl⟩ := hw'
     have hbx := qa4 wo p
     have hzx := hbx.size
     go_wp2_with (first
      | (go_at_call 176;refine (HLs.out _ hbx).mono ?_;rw [Hdl.out];rintro e w6 ⟨rfl,hb6⟩;have hb6' := hbx.trans (hb6.mono hzx);have hz6 := hb6'.size)
      | (go_at_call 177;refine (HMi.out _ hb6').mono ?_;rintro e w7 ⟨a7,c7,rfl,hN7,hb7⟩;have HN7 := Lib.hid hN7;have hb7' := hb6'.trans (hb7.mono hz6);clear hN7))
     have HX7 := Lib.hid (hx.out.same hb7')
     refine ⟨⟨x,y - x,t,by go_num,HX7,HN7,Lib.hid ?_,by first | omega | assumption,by first | omega | assumption,?_,hb.trans (hb7'.mono hz)⟩,?_⟩
     ·rw [← hgx.out,gcd_less x y Hxy.out]
     ·omega
     ·have k1 := qbc HX7.out
      have k2 := qbc HN7.out
      have k3 := Hnx.out
      have k4 := Hny.out
      show numOf w7 _ + numOf w7 _ < numOf wo _ + numOf wo _
      rw [k3,k4]
      refine Nat.lt_of_le_of_lt (Nat.le_of_eq (congr (congrArg (· + ·) k1) k2)) ?_
      have := Qx.out;have := Qy.out;omega
    ·have qx : (X.tmod 2 == 0) = false := hpx _ (by simp; omega)
     have qy : (Y.tmod 2 == 0) = false := hpy _ (by simp;omega)
     have Qx := Lib.hid kpx;have Qy := Lib.hid kpy
     have hdl : decide (x < y) = false := decide_eq_false (by omega)
     have hMi := fun W (hW : Below wo.heap.size wo W) => r3Minus _ _ x y W (hx.out.same hW) (hy.out.same hW) (by omega) (by omega)
     have Hxy := Lib.hid (show y ≤ x by omega)
     have lx3 := lim_le_of (Nat.sub_le x y) hlx
     have Hdl := Lib.hid hdl;have HMi := Lib.hid hMi
     clear hpx hpy kpx kpy hdl hMi hlt
     go_wp2
     refine qa3 (by kernel_rfl) (by kernel_rfl) ?_
     repeat (go_big_quiet_step (fail))
     refine wpQuiet_nil ?_
     intro _ hw';obtain ⟨p,rfl⟩ := hw'
     have hbx := qa4 wo p
     have hzx := hbx.size
     go_wp2_with (first
      | (go_at_call 176;refine (HLs.out _ hbx).mono ?_;rw [Hdl.out];rintro e w6 ⟨rfl,hb6⟩;have hb6' := hbx.trans (hb6.mono hzx);have hz6 := hb6'.size)
      | (go_at_call 177;refine (HMi.out _ hb6').mono ?_;rintro e w7 ⟨a7,c7,rfl,hN7,hb7⟩;have HN7 := Lib.hid hN7;have hb7' := hb6'.trans (hb7.mono hz6);clear hN7))
     have HY7 := Lib.hid (hy.out.same hb7')
     refine ⟨⟨x - y,y,t,by go_num,HN7,HY7,Lib.hid ?_,by first | omega | assumption,by first | omega | assumption,?_,hb.trans (hb7'.mono hz)⟩,?_⟩
     ·rw [← hgx.out,gcd_less' x y Hxy.out]
     ·omega
     ·have k1 := qbc HN7.out
      have k2 := qbc HY7.out
      have k3 := Hnx.out
      have k4 := Hny.out
      show numOf w7 _ + numOf w7 _ < numOf wo _ + numOf wo _
      rw [k3,k4]
      refine Nat.lt_of_le_of_lt (Nat.le_of_eq (congr (congrArg (· + ·) k1) k2)) ?_
      have := Qx.out;have := Qy.out;omega
end
end Go.Proofs.YthcbkhfmdginiaaGreat
