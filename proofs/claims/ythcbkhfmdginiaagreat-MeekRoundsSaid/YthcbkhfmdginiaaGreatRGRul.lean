/- Texts of one claim,put together: R11A,ShelfS,ChoA,Who,Whos,R11B,Rows2,R11C,R11D,R09A,R09B,R11E,R11F,VPr. -/
import Derived.Test.YthcbkhfmdginiaaGreatRGOne
import Derived.Test.YthcbkhfmdginiaaGreatRGPut
import Derived.Test.YthcbkhfmdginiaaGreatShelf
import Derived.Test.YthcbkhfmdginiaaGreatRGFoot
import Derived.Test.YthcbkhfmdginiaaGreatRGRat
import Derived.Test.YthcbkhfmdginiaaGreatRGAdd
import Derived.Test.YthcbkhfmdginiaaGreatRGNat
import Derived.Sort.OwnSortedInts
import Derived.Maps.RangeWalk
import Derived.Deep.OwnRows
import Derived.StillTailTactics

namespace Go.Proofs.YthcbkhfmdginiaaGreat
section
open Go Go.RowKit Go.Shelf

def hasI (l : List Int) (n : Int) : Bool := l.contains n
theorem hasI_mem {l : List Int} {n : Int} : hasI l n = true ↔ n ∈ l := List.contains_iff_mem
theorem r11In (S : Nat → Prop) (v : Value) (l : List Int) (n : Int) (w : World) (h : RInts S w v l) :
  Calls Tryz.prog 39 #[v,.int .i64 n] w fun e w' => e = .returned (.bool (hasI l n)) ∧ w = w' := by
 obtain ⟨a,cap,rfl,h1,h2⟩ := RSl.shape h
 go_enter Tryz.func39,Tryz.ntmps39
 go_wp2
 go_loop [5] (fun i => ∃ k : Nat,k ≤ l.length ∧ i = .int .i64 k ∧ Hid (hasI (l.take k) n = false)) (fun i => l.length - (intOf i).toNat)
 case atStart => exact ⟨0,Nat.zero_le _,rfl,Lib.hid rfl⟩
 case round =>
  obtain ⟨k,hk,rfl,hg⟩ := hrel
  by_cases hlt : k < l.length
  ·obtain ⟨b, off, c, rfl, hS, hbw, hc, hx⟩ := RSl.at1 h k hlt
   obtain ⟨rfl,-⟩ := hx.open
   by_cases he : l[k] = n
   ·have he' : (l[k] == n) = true := by simpa using he
    have He := Lib.hid he;clear he
    go_wp2
    go_ret
    exact ⟨qaa (by symm;rw [hasI_mem,← He.out];exact List.getElem_mem hlt),rfl⟩
   ·have he' : (l[k] == n) = false := by simpa using he
    have He := Lib.hid he;clear he
    go_wp2
    go_round
    case rel => exact ⟨k + 1,by omega,by go_num,Lib.hid (by rw [List.take_succ_eq_append_getElem hlt,hasI,List.contains_eq_any_beq,List.any_append,← List.contains_eq_any_beq,show (l.take k).contains n = false from hg.out];simpa using fun e : n = l[k] => He.out e.symm)⟩
    case measure => simp [intOf];omega
  ·go_wp2
   go_ret
   rw [List.take_of_length_le (by omega)] at hg
   exact ⟨qaa hg.out.symm,rfl⟩
theorem find_none_snoc {l : List Int} {p : Int → Bool} {k : Nat} (hk : k < l.length) (h1 : (l.take k).find? p = none) (h2 : p l[k] = false) : (l.take (k + 1)).find? p = none := by
 rw [List.take_succ_eq_append_getElem hk,List.find?_append,h1];simp [h2]
theorem find_some_at {l : List Int} {p : Int → Bool} {k : Nat} (hk : k < l.length) (h1 : (l.take k).find? p = none) (h2 : p l[k] = true) : l.find? p = some l[k] := by
 conv => lhs;rw [← List.take_append_drop k l]
 rw [List.find?_append,h1,List.drop_eq_getElem_cons hk,List.find?_cons,h2];rfl
set_option maxHeartbeats 400000 in
theorem r11First (S T : Nat → Prop) (u v : Value) (lot among : List Int) (w : World) (h : RInts S w u lot) (hv : RInts T w v among) :
  Calls Tryz.prog 54 #[u,v] w fun e w' => e = .returned (.int .i64 (firstL lot among)) ∧ w = w' := by
 obtain ⟨a,cap,rfl,h1,h2⟩ := RSl.shape h
 have hI := fun n => r11In T v among n w hv
 have HI := Lib.hid hI
 clear hI hv
 go_enter Tryz.func54,Tryz.ntmps54
 go_wp2
 go_loop [5] (fun i => ∃ k : Nat,k ≤ lot.length ∧ i = .int .i64 k ∧ Hid ((lot.take k).find? (fun x => hasI among x) = none)) (fun i => lot.length - (intOf i).toNat)
 case atStart => exact ⟨0,Nat.zero_le _,rfl,Lib.hid rfl⟩
 case round =>
  obtain ⟨k,hk,rfl,hg⟩ := hrel
  by_cases hlt : k < lot.length
  ·obtain ⟨b, off, c, rfl, hS, hbw, hc, hx⟩ := RSl.at1 h k hlt
   obtain ⟨rfl,-⟩ := hx.open
   have hin := HI.out lot[k]
   cases he : hasI among lot[k]
   ·rw [he] at hin
    have He := Lib.hid he;have Hin := Lib.hid hin;clear he hin
    go_wp2_with (go_at_call 39;refine Hin.out.mono ?_;rintro e w1 ⟨rfl,rfl⟩)
    go_round
    case rel => exact ⟨k + 1,by omega,by go_num,Lib.hid (find_none_snoc hlt hg.out He.out)⟩
    case measure => simp [intOf];omega
   ·rw [he] at hin
    have He := Lib.hid he;have Hin := Lib.hid hin;clear he hin
    go_wp2_with (go_at_call 39;refine Hin.out.mono ?_;rintro e w1 ⟨rfl,rfl⟩)
    go_ret
    exact ⟨qac (by rw [firstL,find_some_at (p := fun x => among.contains x) hlt hg.out He.out];rfl),rfl⟩
  ·go_wp2
   go_ret
   rw [List.take_of_length_le (by omega)] at hg
   exact ⟨qac (by rw [firstL,show lot.find? (fun x => among.contains x) = none from hg.out];rfl),rfl⟩
def GivesI (xs : List Int) (w : World) (e : Ending) (w' : World) : Prop := ∃ v,e = .returned v ∧ Own w.heap.size 3 1 (dInt .i64) w' v xs ∧ Below w.heap.size w w'
set_option maxHeartbeats 400000 in
theorem r11All (n : Nat) (w : World) (hn : n ≤ 1000000) : Calls Tryz.prog 52 #[.int .i64 n] w (GivesI (rngI n) w) := by
 go_enter Tryz.func52,Tryz.ntmps52
 go_wp2
 go_loopw [3,4] (fun s i wr => ∃ k : Nat,k ≤ n ∧ i = .int .i64 k ∧ Hid (Own w.heap.size 3 1 (dInt .i64) wr s (rngI k)) ∧ Below w.heap.size w wr) (fun _ i _ => n - (intOf i).toNat)
 case atStart => exact ⟨0,Nat.zero_le _,rfl,Lib.hid (Own.nil _ _ _ _ _),Below.refl _ _⟩
 case round =>
  obtain ⟨k,hk,rfl,hO,hb⟩ := hrel
  obtain ⟨ao,co,rfl⟩ := Own.shape hO.out
  have hz := hb.size
  by_cases hlt : k < n
  ·have hsl : (rngI k).length ≤ 1000000 := by rw [qar]; omega
   have hwf : (Lit.int .i64 (k : Int)).wf = true := WalkArith.wf_i64 (by omega)
   have Hsl := Lib.hid hsl;have Hwf := Lib.hid hwf
   clear hsl hwf
   go_wp2_with (at_builtin;go_must (refine wpList_appI wr Tryz.infoInt rfl rfl Tryz.underlying25 w.heap.size hO.out rfl rfl Hwf.out Hsl.out hz ?_);intro a1 n1 c1 w1 ho1 hb1;have Ho1 := Lib.hid ho1;have Hb1 := Lib.hid (hb1 _ _ (Nat.le_refl _) hb);clear ho1 hb1)
   exact ⟨⟨k + 1,by omega,by go_num,Lib.hid (by rw [rngI_succ];exact Ho1.out),Hb1.out⟩,by simp [intOf];omega⟩
  ·obtain rfl : k = n := by omega
   go_wp2
   go_ret
   exact ⟨_,rfl,hO.out,hb⟩
end

section
open Go Go.RowKit Go.Shelf Go.Sort

theorem RInts.cells {S : Nat → Prop} {w : World} {b off n cap : Nat} {l : List Int} (h : RInts S w (.slice (some ⟨b,off,none⟩) n cap) l) : ∀ j,j < l.length → w.cell? ⟨b,off + j,none⟩ = some (.int .i64 (l.getD j 0)) := fun j hj => by
 obtain ⟨b',off',c,e1,-,-,hc,hx⟩ := RSl.at1 h j hj
 simp only [Option.some.injEq,Addr.mk.injEq,and_true] at e1
 obtain ⟨rfl,rfl⟩ := e1
 obtain ⟨rfl,-⟩ := hx.open
 rw [hc,List.getD_eq_getElem?_getD,List.getElem?_eq_getElem hj];rfl
theorem slIndex (S : Nat → Prop) (v : Value) (l : List Int) (x : Int) (w : World) (h : RInts S w v l) :
  Calls Tryz.prog 215 #[v,.int .i64 x] w fun e w' => e = .returned (.int .i64 (Lib.idxOf l x)) ∧ w' = w := by
 have h0 := h
 obtain ⟨a,cap,rfl,h1,h2⟩ := RSl.shape h
 rcases Nat.eq_zero_or_pos l.length with hz | hz
 ·obtain rfl := List.eq_nil_of_length_eq_zero hz
  exact Tryz.slices_Index_int_empty a cap x w
 ·obtain ⟨b, off, c, rfl, -, -, -, -⟩ := RSl.at1 h 0 hz
  have := Tryz.slices_Index_int b off l.length cap l x w (Nat.le_refl _) (by omega) (RInts.cells h0)
  rwa [List.take_length] at this
theorem idxFrom_eq : ∀ {l : List Int} {x : Int} {i : Nat},x ∈ l → Lib.idxFrom l x i = ((i + l.idxOf x : Nat) : Int)
 | [],_,_,h => absurd h List.not_mem_nil
 | a :: l, x, i, h => by
  by_cases e : a = x
  ·subst e
   simp [Lib.idxFrom]
  ·have hx : x ∈ l := by rcases List.mem_cons.1 h with r | r; exact absurd r.symm e; exact r
   have ih := idxFrom_eq (i := i + 1) hx
   have e2 : (a == x) = false := by simpa using e
   rw [List.idxOf_cons,e2]
   simp only [cond_false]
   simp only [Lib.idxFrom,if_neg e,ih]
   omega
theorem idxOf_eq {l : List Int} {x : Int} (h : x ∈ l) : Lib.idxOf l x = (l.idxOf x : Nat) := by
 rw [Lib.idxOf,idxFrom_eq h,Nat.zero_add]
theorem Own.cur {base : Nat} {e : TypeId} {w : World} {v : Value} {xs : List Int} (h : Own base e 1 (dInt .i64) w v xs) :
  (v = .slice none 0 0 ∧ xs = []) ∨ ∃ g cap cur,v = .slice (some ⟨g,0,none⟩) xs.length cap ∧ base ≤ g ∧ w.heap[g]? = some (.cells cur e (0,0)) ∧ xs.length ≤ cap ∧ cap ≤ maxLen ∧ cur.size = cap * 1 ∧ cur.toList.take xs.length = xs.map (Value.int .i64) ∧ ∀ x ∈ xs,(Lit.int .i64 x).wf = true := by
 obtain ⟨cells,⟨hl,ho⟩,hD⟩ := h
 have hcs : cells = xs.map (Value.int .i64) ∧ ∀ x ∈ xs,(Lit.int .i64 x).wf = true := by
  rw [Nat.mul_one] at hl
  have hk : ∀ k (hk : k < xs.length) (hk2 : k < cells.length),cells[k] = .int .i64 xs[k] ∧ (Lit.int .i64 xs[k]).wf = true := fun k hk hk2 => by
   have := hD.2 k hk
   rw [Nat.mul_one,List.drop_eq_getElem_cons hk2,List.take_succ_cons,List.take_zero] at this
   exact this.open
  refine ⟨List.ext_getElem (by simpa using hl) fun k k1 k2 => ?_,fun x hx => ?_⟩
  ·rw [(hk k (by simpa using k2) k1).1];simp
  ·obtain ⟨k, hk3, rfl⟩ := List.getElem_of_mem hx
   exact (hk k hk3 (by omega)).2
 rcases ho with ⟨h1,h2⟩ | ⟨g,cap,cur,h1,h2,h3,h4,h5,h6,h7⟩
 ·exact .inl ⟨h1,List.eq_nil_of_length_eq_zero h2⟩
 ·rw [Nat.mul_one] at h7
  exact .inr ⟨g,cap,cur,h1,h2,h3,h4,h5,h6,by rw [h7,hcs.1],hcs.2⟩
theorem Own.ofInts {base : Nat} {e : TypeId} {w : World} {v : Value} {xs : List Int} (h : w.ownsRow base e 1 v xs.length (xs.map (Value.int .i64))) (hw : ∀ x ∈ xs,(Lit.int .i64 x).wf = true) : Own base e 1 (dInt .i64) w v xs :=
 ⟨xs.map (Value.int .i64), h, by simp, fun i hi => by
  have hk2 : i < (xs.map (Value.int .i64)).length := by simpa using hi
  rw [Nat.mul_one,List.drop_eq_getElem_cons hk2,List.take_succ_cons,List.take_zero,List.getElem_map]
  exact ⟨rfl,hw _ (List.getElem_mem hi)⟩⟩
theorem ownsRow_cut {w : World} {base g cap k n : Nat} {e : TypeId} {xs : List Value} (h : w.ownsRow base e 1 (.slice (some ⟨g,0,none⟩) n cap) n xs) (hk : k ≤ n) : w.ownsRow base e 1 (.slice (some ⟨g,0,none⟩) k cap) k (xs.take k) := by
 obtain ⟨hl,ho⟩ := h
 rcases ho with ⟨h1,-⟩ | ⟨g',cap',cur,h1,h2,h3,h4,h5,h6,h7⟩
 ·cases h1
 ·simp only [Value.slice.injEq, Option.some.injEq, Addr.mk.injEq, and_true] at h1
  obtain ⟨rfl,-,rfl⟩ := h1
  refine ⟨by simp;omega,.inr ⟨g,cap,cur,rfl,h2,h3,by omega,h5,h6,?_⟩⟩
  rw [← h7,List.take_take,Nat.mul_one,Nat.mul_one,Nat.min_eq_left hk]
def InPlace (base : Nat) (v : Value) (ys : List Int) (w : World) (w' : World) : Prop := Own base 3 1 (dInt .i64) w' v ys ∧ ∀ B W0,B ≤ base → Below B W0 w → Below B W0 w'
theorem slSort (base : Nat) (v : Value) (xs : List Int) (w : World) (h : Own base 3 1 (dInt .i64) w v xs) (hb : base ≤ w.heap.size) (hl : xs.length ≤ 1000000) :
  Calls Tryz.prog 149 #[v] w fun e w' => e = .returned (.tuple #[]) ∧ InPlace base v (sortI xs) w w' := by
 have h0 := h
 rcases h.cur with ⟨rfl,rfl⟩ | ⟨g,cap,cur,rfl,hbg,hg,h1,h2,h3,h4,h5⟩
 ·refine (Tryz.slices_Sort_int_none none 0 w).mono ?_
  rintro e w' ⟨rfl,rfl⟩
  have : sortI [] = [] := List.eq_nil_of_length_eq_zero (qb7 [])
  rw [this]
  exact ⟨rfl,h0,fun _ _ _ h => h⟩
 ·refine (Tryz.slices_Sort_int g 0 cap xs w (holds_of_blockI hg h4) (qa0 hg) (by omega)).mono ?_
  rintro e w' ⟨rfl,n,os,rfl⟩
  have hgr := grownBy_sortedI (w := w) (g := g) (n := n) (os := os) (sortI xs).toArray
  have hrow := ownsRow_sortedI (ts := sortI xs) (ss := xs) (n := n) (os := os) (qb7 xs) hbg hg h1 h2 h3
  rw [← qb7 xs] at hrow
  have hO := Own.ofInts hrow (fun x hx => h5 x ((sortI_perm xs).mem_iff.1 hx))
  rw [qb7] at hO
  exact ⟨rfl,hO,fun B W0 hB hW => hW.grown hgr (by omega) (fun k e => by cases e;omega)⟩
set_option maxHeartbeats 400000 in
theorem choAll (n : Nat) (w : World) (hn : n ≤ 1000000) : Calls Tryz.prog 82 #[.int .i64 n] w (GivesI (rngI n) w) := by
 go_enter Tryz.func82,Tryz.ntmps82
 go_wp2
 go_loopw [2,3,5] (fun s _ i wr => ∃ k : Nat,k ≤ n ∧ i = .int .i64 k ∧ Hid (Own w.heap.size 3 1 (dInt .i64) wr s (rngI k)) ∧ Below w.heap.size w wr) (fun _ _ i _ => n - (intOf i).toNat)
 case atStart => exact ⟨0,Nat.zero_le _,rfl,Lib.hid (Own.nil _ _ _ _ _),Below.refl _ _⟩
 case round =>
  obtain ⟨k,hk,rfl,hO,hb⟩ := hrel
  obtain ⟨ao,co,rfl⟩ := Own.shape hO.out
  have hz := hb.size
  by_cases hlt : k < n
  ·have hsl : (rngI k).length ≤ 1000000 := by rw [qar]; omega
   have hwf : (Lit.int .i64 (k : Int)).wf = true := WalkArith.wf_i64 (by omega)
   have Hsl := Lib.hid hsl;have Hwf := Lib.hid hwf
   clear hsl hwf
   go_wp2_with (at_builtin;go_must (refine wpList_appI wr Tryz.infoInt rfl rfl Tryz.underlying25 w.heap.size hO.out rfl rfl Hwf.out Hsl.out hz ?_);intro a1 n1 c1 w1 ho1 hb1;have Ho1 := Lib.hid ho1;have Hb1 := Lib.hid (hb1 _ _ (Nat.le_refl _) hb);clear ho1 hb1)
   exact ⟨⟨k + 1,by omega,by go_num,Lib.hid (by rw [rngI_succ];exact Ho1.out),Hb1.out⟩,by simp [intOf];omega⟩
  ·obtain rfl : k = n := by omega
   go_wp2
   go_ret
   exact ⟨_,rfl,hO.out,hb⟩
end

section
open Go Go.RowKit Go.Shelf Limb

theorem lim1 : lim 1 = [1] := lim_small (n := 1) (by omega) (by omega)
def GivesW (n : Nat) (w : World) (e : Ending) (w' : World) : Prop := ∃ a c a' c',e = .returned (.agg #[.bool false,.slice a (lim n).length c,.slice a' 1 c']) ∧ RU (From w.heap.size) w' (.slice a (lim n).length c) (lim n) ∧ RU (From w.heap.size) w' (.slice a' 1 c') [1] ∧ Below w.heap.size w w'
theorem natOfF (n : Nat) (w : World) (hn : n < 9223372036854775808) :
  Calls Tryz.prog 103 #[.int .u64 n] w fun e w' => ∃ a c,e = .returned (.slice a (lim n).length c) ∧ RU (From w.heap.size) w' (.slice a (lim n).length c) (lim n) ∧ Below w.heap.size w w' := by
 have hv : (val [(n : Int) % 4294967296,(n : Int) / 4294967296]).toNat = n := by simp [val];omega
 have hT : Calls Tryz.prog 165 #[.slice (some ⟨w.heap.size,0,none⟩) 2 2] (w.alloc (.cells #[.int .u32 ((n : Int) % 4294967296),.int .u32 ((n : Int) / 4294967296)] 177)) (TrimGives (From w.heap.size) [(n : Int) % 4294967296,(n : Int) / 4294967296] (w.alloc (.cells #[.int .u32 ((n : Int) % 4294967296),.int .u32 ((n : Int) / 4294967296)] 177))) := by
  have hA : Arr .u32 (w.alloc (.cells #[.int .u32 ((n : Int) % 4294967296),.int .u32 ((n : Int) / 4294967296)] 177)) w.heap.size 177 [(n : Int) % 4294967296,(n : Int) / 4294967296] := qa8 w _
  exact natTrim _ _ _ _ (hA.all (S := From w.heap.size) (Nat.le_refl _) (fun x hx => wf_u32.2 (by simp at hx;omega)) (by simp) rfl (Nat.le_refl _))
 have hT2 := hT.mono (fun e w' (hh : TrimGives _ _ _ e w') => (show ∃ a c,e = .returned (.slice a (lim n).length c) ∧ RU (From w.heap.size) w' (.slice a (lim n).length c) (lim n) ∧ w' = w.alloc (.cells #[.int .u32 ((n : Int) % 4294967296),.int .u32 ((n : Int) / 4294967296)] 177) from by
  obtain ⟨a,h1,h2,h3⟩ := hh
  rw [hv] at h1 h2
  subst h3
  exact ⟨a,_,h1,h2,rfl⟩))
 have hq : (n : Int) / 4294967296 % 4294967296 = (n : Int) / 4294967296 := by omega
 have HT := Lib.hid hT2
 clear hT hT2 hv
 go_enter Tryz.func103,Tryz.ntmps103
 go_wp2_with (go_at_call 165;refine HT.out.mono ?_;rintro e w1 ⟨a1,c1,rfl,hN,rfl⟩;have HN := Lib.hid hN;clear hN)
 go_ret
 exact ⟨a1,c1,rfl,HN.out,qa1 _ _⟩
theorem ratOneF (w : World) : Calls Tryz.prog 105 #[] w fun e w' => ∃ g,e = .returned (.slice (some ⟨g,0,none⟩) 1 1) ∧ RU (From w.heap.size) w' (.slice (some ⟨g,0,none⟩) 1 1) [1] ∧ Below w.heap.size w w' := by
 have h1 : RU (From w.heap.size) (w.alloc (.cells #[.int .u32 1] 177)) (.slice (some ⟨w.heap.size,0,none⟩) 1 1) [1] :=
  RSl.built (lo := w.heap.size) (cs := [.int .u32 1]) (w' := w.alloc (.cells #[.int .u32 1] 177)) (Nat.le_refl _) (qa8 w _) rfl ⟨rfl,wf_u32.2 (by omega)⟩
 have hb0 := qa1 w (.cells #[.int .u32 1] 177)
 have H1 := Lib.hid h1;clear h1
 go_enter Tryz.func105,Tryz.ntmps105
 go_wp2
 go_ret
 exact ⟨_,rfl,H1.out,hb0⟩
set_option maxHeartbeats 1000000 in
theorem ratWhole (n : Nat) (w : World) (hn : n < 9223372036854775808) : Calls Tryz.prog 46 #[.int .i64 n] w (GivesW n w) := by
 obtain ⟨Z,hZ⟩ : ∃ Z,Z = Obj.cells #[.bool false,.slice none 0 0,.slice none 0 0] 56 (0,0) := ⟨_,rfl⟩
 have hb0 := qa1 w Z
 have hgA : (w.alloc Z).heap[w.heap.size]? = some (.cells #[.bool false,.slice none 0 0,.slice none 0 0] 56 (0,0)) := by rw [hZ];exact qa8 w _
 have hS := fun W => ratSize n W hn
 have hO := fun W => natOfF n W hn
 have h1 := fun W => ratOneF W
 have hnn : ¬ (n : Int) < 0 := by omega
 obtain ⟨xs,hxs⟩ : ∃ xs,lim n = xs := ⟨_,rfl⟩
 have hfin : ∀ (w3 : World) a c g,Below (w.alloc Z).heap.size (w.alloc Z) w3 → RU (From (w.heap.size + 1)) w3 (.slice a xs.length c) xs → RU (From (w.heap.size + 1)) w3 (.slice (some ⟨g,0,none⟩) 1 1) [1] → ∀ w',Same (fun b => b ≠ w.heap.size) w3 w' → Below w.heap.size w3 w' → GivesW n w (.returned (.agg #[.bool false,.slice a xs.length c,.slice (some ⟨g,0,none⟩) 1 1])) w' := fun w3 a c g hW k1 k2 w' hs hb => by
  have h1 : ∀ b,From (w.heap.size + 1) b → b ≠ w.heap.size := fun b hb e => by simp only [From] at hb;omega
  have h2 : ∀ b,From (w.heap.size + 1) b → From w.heap.size b := fun b hb => Nat.le_trans (Nat.le_succ _) hb
  rw [GivesW,hxs]
  exact ⟨a,c,_,_,rfl,RU.mono h2 (k1.same (hs.mono h1)),RU.mono h2 (k2.same (hs.mono h1)),(hb0.trans (hW.mono (by simp))).trans hb⟩
 rw [hxs] at hO
 have hcell : ∀ w3,Below (w.alloc Z).heap.size (w.alloc Z) w3 → (∀ i,w3.cell? ⟨w.heap.size,i,none⟩ = (#[.bool false,.slice none 0 0,.slice none 0 0] : Array Value)[i]?) ∧ (∀ i,w3.frozen? ⟨w.heap.size,i,none⟩ = false) := fun w3 hW => by
  obtain ⟨-,g2,g3⟩ := qa6 hW (by simp) hgA
  exact ⟨g2,g3⟩
 have HS := Lib.hid hS;have HO := Lib.hid hO;have H1 := Lib.hid h1;have HF := Lib.hid hfin;have HC := Lib.hid hcell
 clear hS hO h1 hfin hcell hb0 hgA hxs
 subst hZ
 go_enter Tryz.func46,Tryz.ntmps46
 go_wp2_with (first
  | (go_at_call 104;refine (HS.out _).mono ?_;rintro e w0 ⟨rfl,rfl⟩)
  | (go_at_call 103;refine (HO.out _).mono ?_;rintro e w1 ⟨a3,c3,rfl,hN3,hbb1⟩;have hz1 := hbb1.size;rw [World.size_alloc] at hN3 hz1;have HN3 := Lib.hid hN3;clear hN3)
  | (go_at_call 105;refine (H1.out _).mono ?_;rintro e w2 ⟨g4,rfl,hN4,hb2⟩;have hbb2 := hbb1.trans (hb2.mono (by simpa using hz1));have HN3' := Lib.hid (HN3.out.below hb2);have HN4 := Lib.hid (RU.mono (T := From (w.heap.size + 1)) (fun b hb => Nat.le_trans hz1 hb) hN4);obtain ⟨hc3,hf3⟩ := HC.out _ hbb2;clear hN4))
 refine bodyPost_ret (v := .agg #[.bool false,.slice a3 xs.length c3,.slice (some ⟨g4,0,none⟩) 1 1]) (by simp [results,Tryz.results46,go_sem,hc3]) rfl (HF.out _ _ _ _ hbb2 HN3'.out HN4.out _ ?_ ?_)
 ·exact (((Same.refl _ _).setCell (by simp) _).setCell (by simp) _).setCell (by simp) _
 ·exact ((((Below.refl _ _).setCell (p := ⟨w.heap.size,0,none⟩) (Nat.le_refl _) _).setCell (p := ⟨w.heap.size,1,none⟩) (Nat.le_refl _) _).setCell (p := ⟨w.heap.size,2,none⟩) (Nat.le_refl _) _)
end

section
open Go Go.RowKit Go.Shelf Limb

def GivesR (xs : List Rt) (w : World) (e : Ending) (w' : World) : Prop := ∃ v,e = .returned v ∧ OwnX w.heap.size 56 3 dRt w' v xs ∧ Below w.heap.size w w'
end

section
open Go Go.RowKit Go.Shelf

theorem RInts.wf {S : Nat → Prop} {w : World} {v : Value} {xs : List Int} (h : RInts S w v xs) : ∀ x ∈ xs,(Lit.int .i64 x).wf = true := fun x hx => by
 obtain ⟨c,hc⟩ := RSl.mem1 h x hx
 exact hc.open.2
set_option maxHeartbeats 400000 in
theorem r11Without (S : Nat → Prop) (v : Value) (l : List Int) (n : Int) (w : World) (h : RInts S w v l) (hl : l.length ≤ 1000000) :
  Calls Tryz.prog 56 #[v,.int .i64 n] w (GivesI (l.filter fun y => !(y == n)) w) := by
 obtain ⟨a,cap,rfl,h1,h2⟩ := RSl.shape h
 have hH := fun W (hW : Below w.heap.size w W) => h.same (.of_below hW)
 have HH := Lib.hid hH
 clear hH h
 go_enter Tryz.func56,Tryz.ntmps56
 go_wp2
 go_loopw [5,6] (fun s i wr => ∃ k : Nat,k ≤ l.length ∧ i = .int .i64 k ∧ Hid (Own w.heap.size 3 1 (dInt .i64) wr s ((l.take k).filter fun y => !(y == n))) ∧ Below w.heap.size w wr) (fun _ i _ => l.length - (intOf i).toNat)
 case atStart => exact ⟨0,Nat.zero_le _,rfl,Lib.hid (Own.nil _ _ _ _ _),Below.refl _ _⟩
 case round =>
  obtain ⟨k,hk,rfl,hO,hb⟩ := hrel
  obtain ⟨ao,co,rfl⟩ := Own.shape hO.out
  have hz := hb.size
  by_cases hlt : k < l.length
  ·obtain ⟨b, off, c, rfl, hS, hbw, hc, hx⟩ := RSl.at1 (HH.out wr hb) k hlt
   obtain ⟨rfl,hwf⟩ := hx.open
   have hsl : ((l.take k).filter fun y => !(y == n)).length ≤ 1000000 := Nat.le_trans (List.length_filter_le _ _) (by rw [List.length_take];omega)
   have hst : (l.take (k + 1)).filter (fun y => !(y == n)) = (l.take k).filter (fun y => !(y == n)) ++ if l[k] = n then [] else [l[k]] := by
    rw [List.take_succ_eq_append_getElem hlt,List.filter_append]
    congr 1
    by_cases e : l[k] = n
    ·simp [e]
    ·simp [e]
   have Hsl := Lib.hid hsl;have Hwf := Lib.hid hwf
   clear hsl hwf
   by_cases he : l[k] = n
   ·have he' : (l[k] != n) = false := by simpa using he
    rw [if_pos he,List.append_nil] at hst
    have Hst := Lib.hid hst
    clear hst he
    go_wp2
    exact ⟨⟨k + 1,by omega,by go_num,Lib.hid (by rw [Hst.out];exact hO.out),hb⟩,by simp [intOf];omega⟩
   ·have he' : (l[k] != n) = true := by simpa using he
    rw [if_neg he] at hst
    have Hst := Lib.hid hst
    clear hst he
    go_wp2_with (at_builtin;go_must (refine wpList_appI wr Tryz.infoInt rfl rfl Tryz.underlying25 w.heap.size hO.out rfl rfl Hwf.out Hsl.out hz ?_);intro a1 n1 c1 w1 ho1 hb1;have Ho1 := Lib.hid ho1;have Hb1 := Lib.hid (hb1 _ _ (Nat.le_refl _) hb);clear ho1 hb1)
    exact ⟨⟨k + 1,by omega,by go_num,Lib.hid (by rw [Hst.out];exact Ho1.out),Hb1.out⟩,by simp [intOf];omega⟩
  ·obtain rfl : k = l.length := by omega
   have hO2 := hO.out
   rw [List.take_length] at hO2
   have HO2 := Lib.hid hO2
   clear hO2
   go_wp2
   go_ret
   rw [List.take_length]
   exact ⟨_,rfl,HO2.out,hb⟩
theorem place_neg {l : List Int} {n : Int} : idxB (fun m => decide (m = n)) l < 0 ↔ l.contains n = false := by
 have h := idxB_iff (fun m => decide (m = n)) l
 have e : l.any (fun m => decide (m = n)) = l.contains n := by
  rw [List.contains_eq_any_beq]
  apply congrArg (List.any l)
  funext m
  rw [Bool.eq_iff_iff,decide_eq_true_eq,beq_iff_eq]
  exact eq_comm
 rw [e] at h
 cases hc : l.contains n
 ·rw [hc] at h;simp at h;simp;omega
 ·rw [hc] at h;simp at h;simp;omega
def turnedB (l : List Int) : Bool := ((List.range l.length).all fun i => l.contains (i : Int)) && decide (1 ≤ l.length ∧ l.length ≤ 10)
set_option maxHeartbeats 400000 in
theorem r08Turned (S : Nat → Prop) (v : Value) (l : List Int) (w : World) (h : RInts S w v l) :
  Calls Tryz.prog 77 #[v] w fun e w' => e = .returned (.bool (turnedB l)) ∧ w = w' := by
 have hP := fun n => place08 S v l n w h
 obtain ⟨a,cap,rfl,h1,h2⟩ := RSl.shape h
 have HP := Lib.hid hP
 clear hP h
 go_enter Tryz.func77,Tryz.ntmps77
 go_wp2
 go_loop [3] (fun i => ∃ k : Nat,k ≤ l.length ∧ i = .int .i64 k ∧ Hid ((List.range k).all (fun i => l.contains (i : Int)) = true)) (fun i => l.length - (intOf i).toNat)
 case atStart => exact ⟨0,Nat.zero_le _,rfl,Lib.hid rfl⟩
 case round =>
  obtain ⟨k,hk,rfl,hg⟩ := hrel
  by_cases hlt : k < l.length
  ·have hcall := HP.out (k : Int)
   obtain ⟨q,hq⟩ : ∃ q,idxB (fun m => decide (m = (k : Int))) l = q := ⟨_,rfl⟩
   have hn := place_neg (l := l) (n := (k : Int))
   rw [hq] at hcall hn
   have Hcall := Lib.hid hcall
   clear hcall hq
   cases hc : l.contains (k : Int)
   ·have hq0 : q < 0 := hn.2 hc
    have Hc := Lib.hid hc
    clear hn hc
    go_wp2_with (go_at_call 146;refine Hcall.out.mono ?_;rintro e w1 ⟨rfl,rfl⟩)
    go_ret
    refine ⟨qaa ?_,rfl⟩
    symm
    rw [turnedB,Bool.and_eq_false_iff]
    left
    rw [List.all_eq_false]
    exact ⟨k,List.mem_range.2 hlt,by rw [Hc.out];simp⟩
   ·have hq0 : ¬ q < 0 := fun e => by rw [hn.1 e] at hc; cases hc
    have Hc := Lib.hid hc
    clear hn hc
    go_wp2_with (go_at_call 146;refine Hcall.out.mono ?_;rintro e w1 ⟨rfl,rfl⟩)
    go_round
    case rel => exact ⟨k + 1,by omega,by go_num,Lib.hid (by rw [List.range_succ,List.all_append,hg.out];simpa using Hc.out)⟩
    case measure => simp [intOf];omega
  ·obtain rfl : k = l.length := by omega
   have hT : turnedB l = decide (1 ≤ l.length ∧ l.length ≤ 10) := by rw [turnedB,hg.out,Bool.true_and]
   by_cases h1l : 1 ≤ l.length
   ·have k1 : (1 : Int) ≤ (l.length : Nat) := by omega
    by_cases h10 : l.length ≤ 10
    ·have k2 : ((l.length : Nat) : Int) ≤ 10 := by omega
     have HT := Lib.hid (hT.trans (decide_eq_true ⟨h1l,h10⟩))
     clear hT
     go_wp2
     go_ret
     exact ⟨qaa HT.out.symm,rfl⟩
    ·have k2 : ¬ ((l.length : Nat) : Int) ≤ 10 := by omega
     have HT := Lib.hid (hT.trans (decide_eq_false (fun h => h10 h.2)))
     clear hT
     go_wp2
     go_ret
     exact ⟨qaa HT.out.symm,rfl⟩
   ·have k1 : ¬ (1 : Int) ≤ (l.length : Nat) := by omega
    have HT := Lib.hid (hT.trans (decide_eq_false (fun h => h1l h.1)))
    clear hT
    go_wp2
    go_ret
    exact ⟨qaa HT.out.symm,rfl⟩
def lotR (lot : List Int) (c : Int) : Bool := decide ((lot.length : Int) = c) && turnedB lot
theorem lotR_eq {lot : List Int} {c : Int} (h : 1 ≤ c ∧ c ≤ 10) : lotR lot c = lotB lot c := by
 by_cases e : (lot.length : Int) = c
 ·rw [lotR,lotB,turnedB,decide_eq_true e,Bool.true_and,Bool.true_and,decide_eq_true (by omega),Bool.and_true]
 ·rw [lotR,lotB,decide_eq_false e,Bool.false_and,Bool.false_and]
theorem r11Lot (S : Nat → Prop) (v : Value) (l : List Int) (c : Int) (w : World) (h : RInts S w v l) :
  Calls Tryz.prog 26 #[v,.int .i64 c] w fun e w' => e = .returned (.bool (lotR l c)) ∧ w = w' := by
 have hP := r08Turned S v l w h
 obtain ⟨a,cap,rfl,h1,h2⟩ := RSl.shape h
 have HP := Lib.hid hP
 clear hP h
 by_cases e : (l.length : Int) = c
 ·have e' : (((l.length : Nat) : Int) == c) = true := by simpa using e
  have HE := Lib.hid e
  clear e
  go_enter Tryz.func26,Tryz.ntmps26
  go_wp2_with (go_at_call 77;refine HP.out.mono ?_;rintro e w1 ⟨rfl,rfl⟩)
  go_ret
  exact ⟨qaa (by rw [lotR,decide_eq_true HE.out,Bool.true_and]),rfl⟩
 ·have e' : (((l.length : Nat) : Int) == c) = false := by simpa using e
  have HE := Lib.hid e
  clear e
  go_enter Tryz.func26,Tryz.ntmps26
  go_wp2_with (go_at_call 77;refine HP.out.mono ?_;rintro e w1 ⟨rfl,rfl⟩)
  go_ret
  exact ⟨qaa (by rw [lotR,decide_eq_false HE.out,Bool.false_and]),rfl⟩
end

section
open Go Go.RowKit Go.Shelf

def ApartV (v u : Value) : Prop := ∀ b,v.ownBlock = some b → u.ownBlock ≠ some b
theorem ApartV.or {v u : Value} (h : ApartV v u) : v.ownBlock = none ∨ v.ownBlock ≠ u.ownBlock := by
 cases hv : v.ownBlock with
 | none => exact .inl rfl
 | some b => exact .inr fun e => h b hv e.symm
theorem own_type {α : Type} {base n : Nat} {e : TypeId} {dec : World → List Value → α → Prop} {w : World} {v : Value} {xs : List α} (h : Own base e n dec w v xs) {g : Nat} (hg : v.ownBlock = some g) : ∃ cur,w.heap[g]? = some (.cells cur e (0,0)) := by
 obtain ⟨cells,⟨_,h2⟩,_⟩ := h
 rcases h2 with ⟨rfl,_⟩ | ⟨g',cap,cur,rfl,_,h3,_⟩
 ·cases hg
 ·cases hg;exact ⟨cur,h3⟩
theorem qav {α β : Type} {b1 b2 n1 n2 : Nat} {e1 e2 : TypeId} {d1 : World → List Value → α → Prop} {d2 : World → List Value → β → Prop} {w : World} {v u : Value} {xs : List α} {ys : List β} (h1 : Own b1 e1 n1 d1 w v xs) (h2 : Own b2 e2 n2 d2 w u ys) (hne : e1 ≠ e2) : ApartV v u := by
 intro g hv e
 refine hne ?_
 obtain ⟨c1,k1⟩ := own_type h1 hv
 obtain ⟨c2,k2⟩ := own_type h2 e
 rw [k1] at k2
 simp only [Option.some.injEq,Obj.cells.injEq] at k2
 exact k2.2.1
theorem Own.aside {base : Nat} {e : TypeId} {k : IntKind} {w w' : World} {v : Value} {xs : List Int} {row : Option Nat} (h : Own base e 1 (dInt k) w v xs) (hg : w.grownBy w' row) (hne : v.ownBlock = none ∨ v.ownBlock ≠ row) : Own base e 1 (dInt k) w' v xs :=
 Own.kept (S := fun _ => False) (dInt.stable _ _) h hg hne (fun _ _ h => h.elim)
section
variable {P : Program} (w : World)
theorem wpList_appJ {ops : Array Oper} {rest : List Oper} {o : Oper} {a : Act} {Q : Exit → Act → World → Prop} {e t : TypeId} (hinfo : (P.info? e).map (fun i => (i.zero,i.size,i.bytes)) = some (some (.int .i64 0),1,8))
  (hgd : o.guard = none) {s x : Operand} (ho : o.op = .call { callee := .builtin .append,args := #[s,x],argTypes := #[t,t] }) (ht : P.underlying t = some (.slice e)) (base : Nat)
  {v : Value} {xs : List Int} {y : Int} (hown : Own base e 1 (dInt .i64) w v xs) (hs : a.eval s = v) (hx : a.eval x = .slice (some ⟨w.heap.size,0,none⟩) 1 1) (hwf : (Lit.int .i64 y).wf = true)
  (hl : xs.length ≤ 1000000) (hbase : base ≤ w.heap.size)
  (h : ∀ a' n' c' w', Own base e 1 (dInt .i64) w' (.slice a' n' c') (xs ++ [y]) → (∀ B W0, B ≤ base → Below B W0 w → Below B W0 w') → w.grownBy w' v.ownBlock →
   ((Value.slice a' n' c').ownBlock = v.ownBlock ∨ ∃ b,(Value.slice a' n' c').ownBlock = some b ∧ w.heap.size ≤ b) → wpList P ops Q rest (a.put o.dst (.slice a' n' c')) w') :
  wpList P ops Q (o :: rest) a (w.alloc (.cells #[.int .i64 y] e)) := by
 have hO := Own.below (S := fun _ => False) (dInt.stable _ _) hown (qa1 w (.cells #[.int .i64 y] e))
 refine wpList_appV (w.alloc (.cells #[.int .i64 y] e)) hinfo hgd ho ht ⟨rfl,by omega,by omega⟩ (dInt.one _) (dInt.stable (fun _ => False) .i64) base hO hs (RSl.built (w' := w.alloc (.cells #[.int .i64 y] e)) (cs := [.int .i64 y]) (x := y) (Nat.zero_le _) (qa8 w _) rfl ⟨rfl,hwf⟩) hx (by simp only [List.length_cons,List.length_nil];omega) (by simp;omega) ?_
 intro a' n' c' w' hg hat ho'
 refine h a' n' c' w' (ho' (fun _ _ h => h.elim)) (fun B W0 hB hW => ?_) ((World.grownBy_alloc w _ _).trans hg) ?_
 ·exact (hW.alloc (by omega) _).grown hg (by simp;omega) (fun k e => by have := (Own.lt hO k e).1;omega)
 ·rcases hat with e | e
  ·exact .inl e
  ·exact .inr ⟨_,e,by simp⟩
theorem wpList_appF {α : Type} {z : Value} {size bytes : Nat} {ops : Array Oper} {rest : List Oper} {o : Oper} {a : Act} {Q : Exit → Act → World → Prop} {e t : TypeId} (hinfo : (P.info? e).map (fun i => (i.zero,i.size,i.bytes)) = some (some z,size,bytes))
  (hgd : o.guard = none) {s x : Operand} (ho : o.op = .call { callee := .builtin .append,args := #[s,x],argTypes := #[t,t] }) (ht : P.underlying t = some (.slice e))
  (hzs : z.cells.size = size ∧ 0 < size ∧ 0 < bytes ∧ bytes ≤ 1000) {dec : World → List Value → α → Prop} {S : Nat → Prop} (h1 : OneC dec) (hst : Stable S dec) (base : Nat)
  {v : Value} {xs : List α} (hown : Own base e size dec w v xs) (hSv : ∀ b,S b → some b ≠ v.ownBlock) (hs : a.eval s = v) {cs : List Value} {y : α} (hl : cs.length = size) (hy : dec w cs y)
  (hx : a.eval x = .slice (some ⟨w.heap.size,0,none⟩) 1 1) (h63 : xs.length ≤ 1000000) (hbase : base ≤ w.heap.size)
  (h : ∀ a' n' c' w', Own base e size dec w' (.slice a' n' c') (xs ++ [y]) → (∀ B W0, B ≤ base → Below B W0 w → Below B W0 w') → w.grownBy w' v.ownBlock →
   ((Value.slice a' n' c').ownBlock = v.ownBlock ∨ ∃ b,(Value.slice a' n' c').ownBlock = some b ∧ w.heap.size ≤ b) → wpList P ops Q rest (a.put o.dst (.slice a' n' c')) w') :
  wpList P ops Q (o :: rest) a (w.alloc (.cells cs.toArray e)) := by
 have hO := Own.below (S := S) hst hown (qa1 w (.cells cs.toArray e))
 refine wpList_appV (w.alloc (.cells cs.toArray e)) hinfo hgd ho ht ⟨hzs.1,hzs.2.1,hzs.2.2.1⟩ h1 hst base hO hs (RSl.built (w' := w.alloc (.cells cs.toArray e)) (cs := cs) (x := y) (Nat.zero_le _) (qa8 w _) hl (hst _ _ _ _ (.of_below (qa1 _ _)) hy)) hx ?_ (by simp;omega) ?_
 ·have h1 : (xs.length + 1) * bytes ≤ 1000001 * 1000 := Nat.mul_le_mul (by omega) hzs.2.2.2
  simp only [List.length_cons,List.length_nil,Nat.zero_add]
  omega
 ·intro a' n' c' w' hg hat ho'
  refine h a' n' c' w' (ho' (.of_grown hg hSv)) (fun B W0 hB hW => ?_) ((World.grownBy_alloc w _ _).trans hg) ?_
  ·exact (hW.alloc (by omega) _).grown hg (by simp;omega) (fun k e => by have := (Own.lt hO k e).1;omega)
  ·rcases hat with e | e
   ·exact .inl e
   ·exact .inr ⟨_,e,by simp⟩
end
set_option maxHeartbeats 400000 in
set_option maxRecDepth 100000 in
theorem r11TiedG (base : Nat) (S : Nat → Prop) (u v : Value) (ts : List Tie) (among : List Int) (x : Int) (w : World) (h : Own base 115 2 (dTie S) w u ts) (hS : ∀ b,S b → some b ≠ u.ownBlock) (hv : RInts S w v among) (hx : (Lit.int .i64 x).wf = true) (hb : base ≤ w.heap.size) (hl : ts.length ≤ 1000000) :
  Calls Tryz.prog 55 #[u,v,.int .i64 x] w fun e w' => ∃ v',e = .returned v' ∧ Own base 115 2 (dTie S) w' v' (ts ++ tieL among x) ∧ (∀ B W0,B ≤ base → Below B W0 w → Below B W0 w') ∧ w.grownBy w' u.ownBlock ∧
   (v'.ownBlock = u.ownBlock ∨ ∃ b,v'.ownBlock = some b ∧ w.heap.size ≤ b) := by
 obtain ⟨a,cap,rfl⟩ := Own.shape h
 have hD : dTie S w [v,.int .i64 x] ⟨among,x⟩ := ⟨v,rfl,hx,hv⟩
 obtain ⟨a2,cap2,rfl,h12,h22⟩ := RSl.shape hv
 have HO := Lib.hid h;have HD := Lib.hid hD;have Hl := Lib.hid hl;have HS := Lib.hid hS
 clear h hD hv hl hS
 by_cases h2 : among.length < 2
 ·have hti : tieL among x = [] := if_neg (by omega)
  rw [hti,List.append_nil]
  clear hti
  have hlt : ((among.length : Nat) : Int) < 2 := by omega
  clear h12 h22 h2
  go_enter Tryz.func55,Tryz.ntmps55
  go_wp2
  go_ret
  exact ⟨_,rfl,HO.out,fun _ _ _ h => h,qan (Below.refl _ _) |>.but _,.inl rfl⟩
 ·have hti : tieL among x = [⟨among, x⟩] := if_pos (by omega)
  rw [hti]
  clear hti
  have hlt : ¬ ((among.length : Nat) : Int) < 2 := by omega
  clear h12 h22 h2
  go_enter Tryz.func55,Tryz.ntmps55
  go_wp2_with (at_builtin;go_must (refine wpList_appF w Tryz.infoTie rfl rfl Tryz.underlying30 ⟨rfl,by omega,by omega,by omega⟩ (dTie.one S) (dTie.stable S) base HO.out HS.out rfl (cs := [.slice a2 among.length cap2,.int .i64 x]) rfl HD.out rfl Hl.out hb ?_);intro a1 n1 c1 w1 ho1 hb1 hg1 ht1;have Ho1 := Lib.hid ho1;have Hb1 := Lib.hid hb1;have Hg1 := Lib.hid hg1;have Ht1 := Lib.hid ht1;clear ho1 hb1 hg1 ht1)
  go_ret
  exact ⟨_,rfl,Ho1.out,Hb1.out,Hg1.out,Ht1.out⟩
end

section
open Go Go.RowKit Go.Shelf

def Tz (base : Nat) (w : World) (ve vt : Value) : Nat → Prop := fun b => base ≤ b ∧ b < w.heap.size ∧ some b ≠ ve.ownBlock ∧ some b ≠ vt.ownBlock
theorem Tz.up {base : Nat} {w w' : World} {ve vt ve' vt' : Value} (hs : w.heap.size ≤ w'.heap.size) (he : ve'.ownBlock = ve.ownBlock ∨ ∃ b,ve'.ownBlock = some b ∧ w.heap.size ≤ b) (ht : vt'.ownBlock = vt.ownBlock ∨ ∃ b,vt'.ownBlock = some b ∧ w.heap.size ≤ b) : ∀ b,Tz base w ve vt b → Tz base w' ve' vt' b := fun b ⟨h0,h1,h2,h3⟩ => by
 refine ⟨h0,by omega,?_,?_⟩
 ·rcases he with e | ⟨c, e, hc⟩
  ·rw [e];exact h2
  ·rw [e];intro h;cases h;omega
 ·rcases ht with e | ⟨c, e, hc⟩
  ·rw [e];exact h3
  ·rw [e];intro h;cases h;omega
theorem Own.tmono {α : Type} {base : Nat} {e : TypeId} {n : Nat} {dec : (Nat → Prop) → World → List Value → α → Prop} (F : Fam dec) {S T : Nat → Prop} {w : World} {v : Value} {xs : List α} (hT : ∀ b,S b → T b) (h : Own base e n (dec S) w v xs) : Own base e n (dec T) w v xs :=
 Own.dmono (fun _ _ hd => F.mono hT hd) h
structure SeatI (base : Nat) (w wr : World) (ve vt vl : Value) (s : St) : Prop where
 el : Own base 3 1 (dInt .i64) wr ve s.elected
 ti : Own base 115 2 (dTie (Tz base wr ve vt)) wr vt s.ties
 le : Own base 3 1 (dInt .i64) wr vl s.left
 ap : ApartV vl ve
 below : Below base w wr
theorem tie_ne_int : 115 ≠ 3 := by decide
section
variable {base : Nat} {w wr w1 : World} {ve vt vl : Value} {s : St}
theorem SeatI.later (h : SeatI base w wr ve vt vl s) (hb : Below wr.heap.size wr w1) (hz : base ≤ wr.heap.size) : SeatI base w w1 ve vt vl s :=
 ⟨h.el.aside (qan hb) (by cases ve.ownBlock <;> simp),Own.tmono famTie (Tz.up hb.size (.inl rfl) (.inl rfl)) (Own.below (dTie.stable _) h.ti hb),h.le.aside (qan hb) (by cases vl.ownBlock <;> simp),h.ap,h.below.trans (hb.mono hz)⟩
theorem SeatI.tie (h : SeatI base w wr ve vt vl s) {vt2 : Value} {ts : List Tie} (h2 : Own base 115 2 (dTie (Tz base wr ve vt)) w1 vt2 ts) (hB : ∀ B W0,B ≤ base → Below B W0 wr → Below B W0 w1) (hg : wr.grownBy w1 vt.ownBlock)
  (hl : vt2.ownBlock = vt.ownBlock ∨ ∃ b,vt2.ownBlock = some b ∧ wr.heap.size ≤ b) : SeatI base w w1 ve vt2 vl ⟨s.left,s.elected,ts⟩ :=
 ⟨h.el.aside hg (qav h.el h.ti tie_ne_int.symm).or,Own.tmono famTie (Tz.up hg.size (.inl rfl) hl) h2,h.le.aside hg (qav h.le h.ti tie_ne_int.symm).or,h.ap,hB _ _ (Nat.le_refl _) h.below⟩
theorem SeatI.elect (h : SeatI base w wr ve vt vl s) {ve2 : Value} {el : List Int} (h2 : Own base 3 1 (dInt .i64) w1 ve2 el) (hB : ∀ B W0,B ≤ base → Below B W0 wr → Below B W0 w1) (hg : wr.grownBy w1 ve.ownBlock)
  (hl : ve2.ownBlock = ve.ownBlock ∨ ∃ b,ve2.ownBlock = some b ∧ wr.heap.size ≤ b) : SeatI base w w1 ve2 vt vl ⟨s.left,el,s.ties⟩ := by
 refine ⟨h2,Own.tmono famTie (Tz.up hg.size hl (.inl rfl)) (Own.kept (S := Tz base wr ve vt) (dTie.stable _) h.ti hg (qav h.ti h.el tie_ne_int).or (.of_grown hg fun b hb => hb.2.2.1)),h.le.aside hg h.ap.or,?_,hB _ _ (Nat.le_refl _) h.below⟩
 intro b hb e
 rcases hl with hl | ⟨c,hc,hz⟩
 ·exact h.ap b hb (hl ▸ e)
 ·rw [hc] at e; cases e
  have := (Own.lt h.le b hb).2;omega
theorem SeatI.drop (h : SeatI base w wr ve vt vl s) {vl2 : Value} {le : List Int} (h2 : Own wr.heap.size 3 1 (dInt .i64) w1 vl2 le) (hb : Below wr.heap.size wr w1) (hz : base ≤ wr.heap.size) : SeatI base w w1 ve vt vl2 ⟨le,s.elected,s.ties⟩ := by
 have k := h.later hb hz
 refine ⟨k.el,k.ti,Own.rebase h2 hz,?_,k.below⟩
 intro b hb' e
 have := (Own.lt h2 b hb').1
 have := (Own.lt h.el b e).2
 omega
theorem SeatI.among (h : SeatI base w wr ve vt vl s) {va : Value} {am : List Int} (h2 : Own wr.heap.size 3 1 (dInt .i64) w1 va am) (hl : am.length ≤ 1000000) (hz : base ≤ wr.heap.size) : RInts (Tz base w1 ve vt) w1 va am := by
 have h3 : RSl (Cut (From wr.heap.size) w1.heap.size) 1 (dInt .i64) w1 va am := RSl.cut (by omega) (fun _ _ h => h) (Own.rsl h2 (by omega))
 refine RSl.mono (fun _ _ _ h => h) (fun b hb => ⟨Nat.le_trans hz hb.1,hb.2,fun e => ?_,fun e => ?_⟩) h3
 ·have := (Own.lt h.el b e.symm).2;have := hb.1;simp only [From] at this;omega
 ·have := (Own.lt h.ti b e.symm).2;have := hb.1;simp only [From] at this;omega
end
end

section
open Go Go.RowKit Go.Shelf

theorem RSl.slice {α : Type} {S : Nat → Prop} {n : Nat} {dec : World → List Value → α → Prop} {w : World} {v : Value} {xs : List α} (h : RSl S n dec w v xs) : ∃ a m c,v = .slice a m c := by obtain ⟨a,c,h,-,-⟩ := RSl.shape h;exact ⟨a,_,c,h⟩
theorem Own.slice {α : Type} {base n : Nat} {e : TypeId} {dec : World → List Value → α → Prop} {w : World} {v : Value} {xs : List α} (h : Own base e n dec w v xs) : ∃ a m c,v = .slice a m c := by obtain ⟨a,c,h⟩ := Own.shape h;exact ⟨a,_,c,h⟩
end

section
open Go Go.RowKit Go.Shelf

theorem r09New_bad (c kind : Int) (w : World) (hbad : newOk c kind = false) :
  Calls Tryz.prog 137 #[.int .i64 c,.int .u8 kind] w fun e w' => e = .returned (.tuple #[.agg #[.int .i64 0,.int .u8 0,.slice none 0 0],.int .i64 2]) ∧ Below w.heap.size w w' := by
 have hbad' : ¬ (1 ≤ c ∧ c ≤ 10 ∧ 1 ≤ kind ∧ kind ≤ 3) := by simpa [newOk] using hbad
 have hways : c < 1 ∨ (¬ c < 1 ∧ 10 < c) ∨ (¬ c < 1 ∧ ¬ 10 < c ∧ kind < 1) ∨ (¬ c < 1 ∧ ¬ 10 < c ∧ ¬ kind < 1 ∧ 3 < kind) := by omega
 clear hbad hbad'
 rcases hways with h1 | ⟨h1,h2⟩ | ⟨h1,h2,h3⟩ | ⟨h1,h2,h3,h4⟩
 all_goals
  go_enter Tryz.func137,Tryz.ntmps137
  go_wp2
  exact bodyPost_ret (v := .tuple #[.agg #[.int .i64 0,.int .u8 0,.slice none 0 0],.int .i64 2]) (by simp [results,Tryz.results137,go_sem]) rfl ⟨rfl,qa1 _ _⟩
theorem r09New_ok (c kind : Int) (w : World) (hok : newOk c kind = true) :
  Calls Tryz.prog 137 #[.int .i64 c,.int .u8 kind] w fun e w' => e = .returned (.tuple #[.agg #[.int .i64 c,.int .u8 kind,.slice none 0 0],.int .i64 0]) ∧ Below w.heap.size w w' := by
 obtain ⟨h1,h2,h3,h4⟩ : ¬ c < 1 ∧ ¬ 10 < c ∧ ¬ kind < 1 ∧ ¬ 3 < kind := by have := newOk_iff.1 hok;omega
 clear hok
 go_enter Tryz.func137,Tryz.ntmps137
 go_wp2
 exact bodyPost_ret (v := .tuple #[.agg #[.int .i64 c,.int .u8 kind,.slice none 0 0],.int .i64 0]) (by simp [results,Tryz.results137,go_sem]) rfl ⟨rfl,qa1 _ _⟩
theorem r09New (c kind : Int) (w : World) : Calls Tryz.prog 137 #[.int .i64 c,.int .u8 kind] w fun e w' => e = .returned (.tuple #[.agg #[.int .i64 (newP c kind).cands,.int .u8 (newP c kind).kind,.slice none 0 0],.int .i64 (newI c kind)]) ∧ Below w.heap.size w w' := by
 unfold newP newI
 cases h : newOk c kind
 ·exact r09New_bad c kind w h
 ·exact r09New_ok c kind w h
theorem r08Check (S : Nat → Prop) (v : Value) (x : Blt) (c : Int) (w : World) (h : VBlt S w v x) :
  Calls Tryz.prog 40 #[v,.int .i64 c] w fun e w' => e = .returned (.int .i64 (checkB x c)) ∧ Below w.heap.size w w' := by
 have h0 := h
 obtain ⟨cc,d,rfl,hB⟩ := h
 obtain ⟨a,cap,rfl,rfl,hl,-,-,-⟩ := hB.open
 have hb0 : Below w.heap.size w (w.alloc (.cells #[.int .u8 x.kind,.slice a x.marks.length cap] 61)) := qa1 w _
 have hF := fineRef S _ x c _ (h0.same (.of_below hb0))
 by_cases hin : 1 ≤ c ∧ c < 11
 ·obtain ⟨k1, k2⟩ : ¬ c < 1 ∧ ¬ 10 < c := by omega
  have hck : checkB x c = if fineB x c then 0 else 8 := by rw [checkB,if_pos hin]
  cases hf : fineB x c
  ·rw [hf] at hF hck
   have HF := Lib.hid hF;have Hck := Lib.hid hck
   clear hF hck hf hin h0 hB
   go_enter Tryz.func40,Tryz.ntmps40
   go_wp2_with (go_at_call 97;refine HF.out.mono ?_;rintro e w1 ⟨rfl,hb1⟩)
   go_ret
   exact ⟨qac Hck.out.symm,hb0.trans (hb1.mono (by simp))⟩
  ·rw [hf] at hF hck
   have HF := Lib.hid hF;have Hck := Lib.hid hck
   clear hF hck hf hin h0 hB
   go_enter Tryz.func40,Tryz.ntmps40
   go_wp2_with (go_at_call 97;refine HF.out.mono ?_;rintro e w1 ⟨rfl,hb1⟩)
   go_ret
   exact ⟨qac Hck.out.symm,hb0.trans (hb1.mono (by simp))⟩
 ·have hck : checkB x c = 2 := by rw [checkB, if_neg hin]
  have Hck := Lib.hid hck
  have hways : c < 1 ∨ (¬ c < 1 ∧ 10 < c) := by omega
  clear hck hin h0 hB hF
  rcases hways with h1 | ⟨h1,h2⟩
  all_goals
   go_enter Tryz.func40,Tryz.ntmps40
   go_wp2
   go_ret
   exact ⟨qac Hck.out.symm,hb0⟩
set_option maxHeartbeats 1000000 in
theorem r08Ahead (S T : Nat → Prop) (u v : Value) (xs ys : List Int) (w : World) (hx : RInts S w u xs) (hy : RInts T w v ys) :
  Calls Tryz.prog 138 #[u,v] w fun e w' => e = .returned (.bool (decide (cmpL xs ys < 0))) ∧ Below w.heap.size w w' := by
 obtain ⟨a1,cap1,rfl,hx1,hx2⟩ := RSl.shape hx
 obtain ⟨a2,cap2,rfl,hy1,hy2⟩ := RSl.shape hy
 go_enter Tryz.func138,Tryz.ntmps138
 go_wp2
 go_loopw [5] (fun i wr => ∃ k : Nat,k ≤ xs.length ∧ k ≤ ys.length ∧ i = .int .i64 k ∧ Hid (cmpL xs ys = cmpL (xs.drop k) (ys.drop k)) ∧ Below w.heap.size w wr) (fun i _ => xs.length - (intOf i).toNat)
 case atStart => exact ⟨0,Nat.zero_le _,Nat.zero_le _,rfl,Lib.hid (by simp),Below.refl _ _⟩
 case round =>
  obtain ⟨k,hk,hk2,rfl,hg,hb⟩ := hrel
  by_cases hlt : k < xs.length
  ·by_cases hlt2 : k < ys.length
   ·obtain ⟨b, off, c, rfl, hS, hbw, hc, hdx⟩ := RSl.at1 (hx.same (.of_below hb)) k hlt
    obtain ⟨rfl,-⟩ := hdx.open
    obtain ⟨b2,off2,c2,rfl,hS2,hbw2,hc2,hdy⟩ := RSl.at1 (hy.same (.of_below hb)) k hlt2
    obtain ⟨rfl,-⟩ := hdy.open
    have hst := cmpL_at hlt hlt2
    rw [← hg.out] at hst
    obtain ⟨x,hxe⟩ : ∃ x,xs[k] = x := ⟨_,rfl⟩
    obtain ⟨y,hye⟩ : ∃ y,ys[k] = y := ⟨_,rfl⟩
    rw [hxe] at hc hst
    rw [hye] at hc2 hst
    obtain ⟨W1,hW1⟩ : ∃ W1,W1 = wr := ⟨_,rfl⟩
    have hb1 : Below w.heap.size w W1 := by rw [hW1];exact hb
    have hzW := hb1.size
    rw [← hW1] at hc hc2
    have e1 := fun p => qa7 (w := W1) hc p
    have e2 := fun p => qa7 (w := W1) hc2 p
    by_cases hne : x = y
    ·have hq : (x != y) = false := by simpa using hne
     rw [if_neg (by omega),if_neg (by omega)] at hst
     have Hst := Lib.hid hst
     clear hst hne hxe hye hb
     go_wp2
     rw [← hW1]
     clear hW1
     refine qa3 (by kernel_rfl) (by kernel_rfl) ?_
     repeat (go_big_quiet_step (fail))
     refine wpQuiet_nil ?_
     intro w2 hw'
     have hb12 : Below W1.heap.size W1 w2 := by obtain ⟨p,rfl⟩ := hw';exact qa4 W1 p
     clear hw' e1 e2
     go_wp2
     exact ⟨⟨k + 1,by omega,by omega,by go_num,Hst,hb1.trans (hb12.mono hzW)⟩,by simp [intOf];omega⟩
    ·have hq : (x != y) = true := by simpa using hne
     by_cases hl : x < y
     ·rw [if_pos hl] at hst
      have Hst := Lib.hid hst
      clear hst hne hxe hye hb
      go_wp2
      rw [← hW1]
      clear hW1
      refine qa3 (by kernel_rfl) (by kernel_rfl) ?_
      repeat (go_big_quiet_step (fail))
      refine wpQuiet_nil ?_
      intro w2 hw'
      have hb12 : Below W1.heap.size W1 w2 := by obtain ⟨p,rfl⟩ := hw';exact qa4 W1 p
      clear hw' 
      have f1 := (hb12.cell (p := ⟨_,_,none⟩) (qag hc)).trans hc
      have f2 := (hb12.cell (p := ⟨_,_,none⟩) (qag hc2)).trans hc2
      have hb2 := hb1.trans (hb12.mono hzW)
      have e3 := fun p => qa7 (w := w2) f1 p
      have e4 := fun p => qa7 (w := w2) f2 p
      clear e1 e2
      go_wp2
      refine qa3 (by kernel_rfl) (by kernel_rfl) ?_
      repeat (go_big_quiet_step (fail))
      refine wpQuiet_nil ?_
      intro w3 hw'
      have hb23 : Below w2.heap.size w2 w3 := by obtain ⟨p,rfl⟩ := hw';exact qa4 w2 p
      clear hw' e3 e4
      go_wp2
      go_ret
      exact ⟨qaa (by rw [Hst.out];rfl),hb2.trans (hb23.mono hb2.size)⟩
     ·rw [if_neg hl, if_pos (by omega)] at hst
      have Hst := Lib.hid hst
      clear hst hne hxe hye hb
      go_wp2
      rw [← hW1]
      clear hW1
      refine qa3 (by kernel_rfl) (by kernel_rfl) ?_
      repeat (go_big_quiet_step (fail))
      refine wpQuiet_nil ?_
      intro w2 hw'
      have hb12 : Below W1.heap.size W1 w2 := by obtain ⟨p,rfl⟩ := hw';exact qa4 W1 p
      clear hw' 
      have f1 := (hb12.cell (p := ⟨_,_,none⟩) (qag hc)).trans hc
      have f2 := (hb12.cell (p := ⟨_,_,none⟩) (qag hc2)).trans hc2
      have hb2 := hb1.trans (hb12.mono hzW)
      have e3 := fun p => qa7 (w := w2) f1 p
      have e4 := fun p => qa7 (w := w2) f2 p
      clear e1 e2
      go_wp2
      refine qa3 (by kernel_rfl) (by kernel_rfl) ?_
      repeat (go_big_quiet_step (fail))
      refine wpQuiet_nil ?_
      intro w3 hw'
      have hb23 : Below w2.heap.size w2 w3 := by obtain ⟨p,rfl⟩ := hw';exact qa4 w2 p
      clear hw' e3 e4
      go_wp2
      go_ret
      exact ⟨qaa (by rw [Hst.out,decide_eq_false (Int.not_lt.2 hl)];rfl),hb2.trans (hb23.mono hb2.size)⟩
   ·have hst := hg.out.trans (cmpL_over hlt (by omega))
    have Hst := Lib.hid hst
    have hl : ¬ ((xs.length : Nat) : Int) < ((ys.length : Nat) : Int) := by omega
    clear hst
    go_wp2
    go_ret
    exact ⟨qaa (by rw [Hst.out];rfl),hb⟩
  ·have hk' : k = xs.length := by omega
   have hst := hg.out.trans (cmpL_end (by omega))
   by_cases h1 : k < ys.length
   ·rw [if_pos h1] at hst
    have Hst := Lib.hid hst
    subst hk'
    have hl : ((xs.length : Nat) : Int) < ((ys.length : Nat) : Int) := by omega
    clear hst
    go_wp2
    go_ret
    exact ⟨qaa (by rw [Hst.out];rfl),hb⟩
   ·rw [if_neg h1] at hst
    have Hst := Lib.hid hst
    subst hk'
    have hl : ¬ ((xs.length : Nat) : Int) < ((ys.length : Nat) : Int) := by omega
    clear hst
    go_wp2
    go_ret
    exact ⟨qaa (by rw [Hst.out];rfl),hb⟩
def sumsR (l : List Row) : Int := if 1000000 < sumR l then 1000001 else sumR l
theorem sumR_take_le {l : List Row} (h : ∀ r ∈ l,0 ≤ r.many) (k : Nat) : sumR (l.take k) ≤ sumR l ∧ 0 ≤ sumR (l.take k) := by
 have e : sumR l = sumR (l.take k) + sumR (l.drop k) := by rw [sumR,sumR,sumR,← List.sum_append,← List.map_append,List.take_append_drop]
 have hn : ∀ m : List Row,(∀ r ∈ m,0 ≤ r.many) → 0 ≤ sumR m := fun m => by
  induction m with
  | nil => intro _;simp [sumR]
  | cons a m ih =>
   intro hm
   have := ih fun r hr => hm r (List.mem_cons_of_mem _ hr)
   have := hm a (by simp)
   simp only [sumR,List.map_cons,List.sum_cons] at *
   omega
 have := hn (l.drop k) fun r hr => h r (List.mem_of_mem_drop hr)
 have := hn (l.take k) fun r hr => h r (List.mem_of_mem_take hr)
 omega
theorem sumR_snoc {l : List Row} {k : Nat} (hk : k < l.length) : sumR (l.take (k + 1)) = sumR (l.take k) + l[k].many := by
 rw [List.take_succ_eq_append_getElem hk,sumR,sumR,List.map_append,List.sum_append];simp
set_option maxHeartbeats 1000000 in
theorem r09Sums (S : Nat → Prop) (v : Value) (l : List Row) (w : World) (h : RRows S w v l) (hp : ∀ r ∈ l,0 ≤ r.many) :
  Calls Tryz.prog 139 #[v] w fun e w' => e = .returned (.int .i64 (sumsR l)) ∧ w = w' := by
 have hT := sumR_take_le hp
 obtain ⟨a,cap,rfl,h1,h2⟩ := RSl.shape h
 have HT := Lib.hid hT;have Hp := Lib.hid hp
 clear hT hp
 go_enter Tryz.func139,Tryz.ntmps139
 go_wp2
 go_loop [3,4] (fun n i => ∃ (k : Nat) (N : Int),k ≤ l.length ∧ i = .int .i64 k ∧ n = .int .i64 N ∧ Hid (N = sumR (l.take k)) ∧ 0 ≤ N ∧ N ≤ 1000000) (fun _ i => l.length - (intOf i).toNat)
 case atStart => exact ⟨0,0,Nat.zero_le _,rfl,rfl,Lib.hid (by simp [sumR]),by omega,by omega⟩
 case round =>
  obtain ⟨k,N,hk,rfl,rfl,hN,hN0,hN1⟩ := hrel
  by_cases hlt : k < l.length
  ·obtain ⟨b, off, c, d, rfl, hS, hbw, hc, hd, hx⟩ := RSl.at2 h k hlt
   obtain ⟨ax,capx,rfl,rfl,-,hwf,-⟩ := hx.open
   have hst := sumR_snoc hlt
   have hle := (HT.out (k + 1)).1
   have hm0 := Hp.out _ (List.getElem_mem hlt)
   obtain ⟨M,hM⟩ : ∃ M,l[k].many = M := ⟨_,rfl⟩
   rw [hM] at hd hst hm0
   rw [← hN.out] at hst
   by_cases hgt : 1000000 - N < M
   ·have hr : sumsR l = 1000001 := by rw [sumsR, if_pos (by omega)]
    have Hr := Lib.hid hr
    clear hst hle hr hM hwf hx hc
    go_wp2
    go_ret
    exact ⟨qac Hr.out.symm,rfl⟩
   ·have Hst := Lib.hid hst
    have hb1 : 0 ≤ N + M := by omega
    have hb2 : N + M ≤ 1000000 := by omega
    clear hst hle hM hwf hx hc
    go_wp2
    go_round
    case rel => exact ⟨k + 1,N + M,by omega,by go_num,rfl,Lib.hid Hst.out.symm,hb1,hb2⟩
    case measure => simp [intOf];omega
  ·obtain rfl : k = l.length := by omega
   have hr : sumsR l = N := by
    have := hN.out
    rw [List.take_length] at this
    rw [sumsR,if_neg (by omega),this]
   have Hr := Lib.hid hr
   clear hr
   go_wp2
   go_ret
   exact ⟨qac Hr.out.symm,rfl⟩
end

section
open Go Go.RowKit Go.Shelf

set_option maxHeartbeats 4000000 in
set_option maxRecDepth 100000 in
theorem r09Check (S : Nat → Prop) (v : Value) (p : Prof) (w : World) (h : VProf S w v p) :
  Calls Tryz.prog 71 #[v] w fun e w' => e = .returned (.int .i64 (chkP p)) ∧ Below w.heap.size w w' := by
 obtain ⟨a,cap,rfl,hk0,hk1,hR⟩ := h
 obtain ⟨cands,kind,rows⟩ := p
 simp only at hk0 hk1 hR ⊢
 have hb0 := qa1 w (.cells #[.int .i64 cands,.int .u8 kind,.slice a rows.length cap] 24)
 have hbx := qa8 w (.cells #[.int .i64 cands,.int .u8 kind,.slice a rows.length cap] 24)
 obtain ⟨a',cap',hae,h1,h2⟩ := RSl.shape hR
 by_cases h64 : 64 < rows.length
 ·have hr : chkP ⟨cands, kind, rows⟩ = 9 := if_pos h64
  have k64 : ((rows.length : Nat) : Int) > 64 := by omega
  have Hr := Lib.hid hr
  clear hr h1 h2 hae hR
  go_enter Tryz.func71,Tryz.ntmps71
  go_wp2
  go_ret
  exact ⟨qac Hr.out.symm,hb0⟩
 ·have k64 : ¬ ((rows.length : Nat) : Int) > 64 := by omega
  have hN := fun W => r09New cands kind W
  by_cases hn : newOk cands kind = true
  ·have hr : chkP ⟨cands, kind, rows⟩ = if fineP ⟨cands, kind, rows⟩ then (if 1000000 < sumR rows then 4 else 0) else 8 := by
    rw [chkP,if_neg h64];simp only [hn,Bool.and_true]
   have hN2 := fun W => (hN W).mono fun e w' (hh : _ ∧ _) => (show e = .returned (.tuple #[.agg #[.int .i64 cands,.int .u8 kind,.slice none 0 0],.int .i64 0]) ∧ Below W.heap.size W w' from by simpa [newP,newI,hn] using hh)
   have hH := fun W (hW : Below w.heap.size w W) => hR.same (.of_below hW)
   have hbad : (∀ k,k < rows.length → okRow rows cands kind k = false → chkP ⟨cands,kind,rows⟩ = 8) := fun k hk hf => by
    rw [hr,if_neg]
    intro ha
    have := List.all_eq_true.1 ha k (List.mem_range.2 hk)
    simp only at this
    rw [hf] at this;cases this
   have HN := Lib.hid hN2;have HH := Lib.hid hH;have HBad := Lib.hid hbad;have Hr := Lib.hid hr
   clear hN hN2 hH hbad hr h1 h2 hae hR hn
   obtain ⟨n,hn⟩ : ∃ n,rows.length = n := ⟨_,rfl⟩
   rw [hn] at HH k64 hb0 hbx ⊢
   have Hn := Lib.hid hn
   clear h64 hn
   go_enter Tryz.func71,Tryz.ntmps71
   go_wp2_with (go_at_call 137;refine (HN.out _).mono ?_;rintro e w1 ⟨rfl,hbN⟩;have hq1 : Below w.heap.size w w1 := hb0.trans (hbN.mono (by simp));obtain ⟨g1,-,-⟩ := qa6 hbN (by simp) hbx;have hz1 := hq1.size;have G1 := Lib.hid g1;clear g1 hbN)
   go_loopw [6] (fun i wr => ∃ k : Nat,k ≤ n ∧ i = .int .i64 k ∧ Hid ((List.range k).all (okRow rows cands kind) = true) ∧ Below w1.heap.size w1 wr) (fun i _ => n - (intOf i).toNat)
   case atStart => exact ⟨0,Nat.zero_le _,rfl,Lib.hid rfl,qa1 _ _⟩
   case round =>
    obtain ⟨k,hk,rfl,hg,hbr⟩ := hrel
    obtain ⟨W1,hW1⟩ : ∃ W1,W1 = wr := ⟨_,rfl⟩
    have hb1r : Below w1.heap.size w1 W1 := by rw [hW1];exact hbr
    have hb1 : Below w.heap.size w W1 := hq1.trans (hb1r.mono hz1)
    have hzW := hb1.size
    clear hbr
    have gW := (hb1r.block _ (qa0 G1.out)).trans G1.out
    obtain ⟨-,bc,-⟩ := qa6 (Below.refl _ W1) (qa0 gW) gW
    have c0 : W1.cell? ⟨w.heap.size,0,none⟩ = some (.int .i64 cands) := bc 0
    have c1 : W1.cell? ⟨w.heap.size,1,none⟩ = some (.int .u8 kind) := bc 1
    have e0 := fun p => qa7 (w := W1) c0 p
    have e1 := fun p => qa7 (w := W1) c1 p
    clear bc gW
    by_cases hlt : k < n
    ·have hlr : k < rows.length := by rw [Hn.out]; exact hlt
     have hok := okRow_at (rows := rows) (c := cands) (kind := kind) hlr
     obtain ⟨b,off,cc,dd,rfl,hS,hbw,hc,hd,hx⟩ := RSl.at2 (HH.out W1 hb1) k hlr
     obtain ⟨ax,capx,rfl,rfl,hlx,hwf,hI⟩ := hx.open
     have hbad := HBad.out k hlr
     obtain ⟨many,hmany⟩ : ∃ m,rows[k].many = m := ⟨_,rfl⟩
     obtain ⟨marks,hmarks⟩ : ∃ m,rows[k].marks = m := ⟨_,rfl⟩
     rw [hmany] at hd hok
     rw [hmarks] at hc hI hok
     have e2 := fun p => qa7 (w := W1) hc p
     have e3 := fun p => qa7 (w := W1) hd p
     have hK := fun p => r08Check S (.agg #[.int .u8 kind,.slice ax marks.length capx]) ⟨kind,marks⟩ cands (ext W1 p) ⟨_,_,rfl,_,rfl,hk0,hk1,hI.same (.of_below (qa4 W1 p))⟩
     obtain ⟨q,hq⟩ : ∃ q,checkB ⟨kind,marks⟩ cands = q := ⟨_,rfl⟩
     rw [hq] at hK hok
     obtain ⟨L,hL⟩ : ∃ L,marks.length = L := ⟨_,rfl⟩
     rw [hL] at hK e2 hI
     have Hbad := Lib.hid hbad
     rcases Nat.eq_zero_or_pos k with hk00 | hkp
     ·subst hk00
      simp only [Nat.zero_mul,Nat.add_zero] at e2 e3
      have e4 := e2
      have hok2 : okRow rows cands kind 0 = (decide (0 < many) && decide (q = 0)) := by rw [hok];simp
      clear hok hq hmany hmarks hx hwf hlx hbad hL hI hc hd
      have HK := Lib.hid hK
      clear hK
      by_cases hm : many < 1
      ·have Hok := Lib.hid (show okRow rows cands kind 0 = false by rw [hok2, decide_eq_false (by omega)]; rfl)
       clear hok2
       go_wp2
       rw [← hW1]
       clear hW1
       refine qa3 (by kernel_rfl) (by kernel_rfl) ?_
       repeat (go_big_quiet_step ((fail)))
       refine wpQuiet_nil ?_
       intro w2 hw'
       have hb12 : Below W1.heap.size W1 w2 := by obtain ⟨p,rfl⟩ := hw';exact qa4 W1 p
       clear hw' e0 e1 e2 e3 e4
       go_wp2
       go_ret
       exact ⟨qac (Hbad.out Hok.out).symm,hb1.trans (hb12.mono hzW)⟩
      ·have hmd : decide (many < 1) = false := decide_eq_false hm
       by_cases hq0 : q = 0
       ·subst hq0
        have Hok := Lib.hid (show okRow rows cands kind 0 = true by rw [hok2,decide_eq_true (by omega)];rfl)
        clear hok2
        go_wp2
        rw [← hW1]
        clear hW1
        refine qa3 (by kernel_rfl) (by kernel_rfl) ?_
        repeat (go_big_quiet_step ((go_at_call 40;have hh := HK.out;exact qab (v := .int .i64 0) (hh _))))
        refine wpQuiet_nil ?_
        intro w2 hw'
        have hb12 : Below W1.heap.size W1 w2 := by obtain ⟨p,rfl⟩ := hw';exact qa4 W1 p
        clear hw' e0 e1 e2 e3 e4
        go_wp2
        exact ⟨⟨0 + 1,by omega,by go_num,Lib.hid (by rw [List.range_succ,List.all_append,hg.out];simpa using Hok.out),hb1r.trans (hb12.mono hb1r.size)⟩,by simp [intOf];omega⟩
       ·have hq1' : (q != 0) = true := by simpa using hq0
        have Hok := Lib.hid (show okRow rows cands kind 0 = false by rw [hok2,decide_eq_false hq0,Bool.and_false])
        clear hok2 hq0
        go_wp2
        rw [← hW1]
        clear hW1
        refine qa3 (by kernel_rfl) (by kernel_rfl) ?_
        repeat (go_big_quiet_step ((go_at_call 40;have hh := HK.out;exact qab (v := .int .i64 q) (hh _))))
        refine wpQuiet_nil ?_
        intro w2 hw'
        have hb12 : Below W1.heap.size W1 w2 := by obtain ⟨p,rfl⟩ := hw';exact qa4 W1 p
        clear hw' e0 e1 e2 e3 e4
        go_wp2
        go_ret
        exact ⟨qac (Hbad.out Hok.out).symm,hb1.trans (hb12.mono hzW)⟩
     ·have hkm : k - 1 < rows.length := by omega
      obtain ⟨b',off',cc',dd',eb,hS',hbw',hc',hd',hx'⟩ := RSl.at2 (HH.out W1 hb1) (k - 1) hkm
      simp only [Option.some.injEq,Addr.mk.injEq,and_true] at eb
      obtain ⟨rfl,rfl⟩ := eb
      obtain ⟨ay,capy,rfl,-,hly,-,hI'⟩ := hx'.open
      have hgd : rows.getD (k - 1) zR = rows[k - 1] := by rw [List.getD_eq_getElem?_getD,List.getElem?_eq_getElem hkm];rfl
      rw [hgd] at hok
      obtain ⟨prev,hprev⟩ : ∃ m,rows[k - 1].marks = m := ⟨_,rfl⟩
      rw [hprev] at hc' hI' hok
      have e4 := fun p => qa7 (w := W1) hc' p
      have hA := fun p => r08Ahead S S _ _ prev marks (ext W1 p) (hI'.same (.of_below (qa4 W1 p))) ((hL ▸ hI : RInts S W1 (.slice ax marks.length capx) marks).same (.of_below (qa4 W1 p)))
      rw [hL] at hA
      obtain ⟨ah,hah⟩ : ∃ ah,decide (cmpL prev marks < 0) = ah := ⟨_,rfl⟩
      rw [hah] at hA hok
      obtain ⟨L',hL'⟩ : ∃ L',prev.length = L' := ⟨_,rfl⟩
      rw [hL'] at hA e4
      have hok2 : okRow rows cands kind k = (ah && (decide (0 < many) && decide (q = 0))) := by rw [hok,decide_eq_false (by omega : ¬ k = 0),Bool.false_or]
      clear hok hq hmany hmarks hx hwf hlx hbad hL hI hc hd hx' hly hI' hc' hd' hgd hprev hah hL'
      have HK := Lib.hid hK;have HA := Lib.hid hA
      clear hK hA
      have i1 : ((k : Int) - 1).toNat = k - 1 := by omega
      have i2 : (0 : Int) ≤ (k : Int) - 1 := by omega
      have i3 : (k : Int) - 1 < n := by omega
      have i4 : IntKind.i64.wrap ((k : Int) - 1) = (k : Int) - 1 := by rw [IntKind.wrap_i64];omega
      have i5 : (k : Int) > 0 := by omega
      by_cases hm : many < 1
      ·have Hok := Lib.hid (show okRow rows cands kind k = false by rw [hok2, decide_eq_false (by omega : ¬ 0 < many), Bool.false_and, Bool.and_false])
       clear hok2
       go_wp2
       rw [← hW1]
       clear hW1
       refine qa3 (by kernel_rfl) (by kernel_rfl) ?_
       repeat (go_big_quiet_step ((fail)))
       refine wpQuiet_nil ?_
       intro w2 hw'
       have hb12 : Below W1.heap.size W1 w2 := by obtain ⟨p,rfl⟩ := hw';exact qa4 W1 p
       clear hw' e0 e1 e2 e3 e4
       go_wp2
       go_ret
       exact ⟨qac (Hbad.out Hok.out).symm,hb1.trans (hb12.mono hzW)⟩
      ·have hmd : decide (many < 1) = false := decide_eq_false hm
       have i6 : decide ((k : Int) > 0) = true := decide_eq_true i5
       by_cases hq0 : q = 0
       ·subst hq0
        cases ah
        ·have Hok := Lib.hid (show okRow rows cands kind k = false by rw [hok2, Bool.false_and])
         clear hok2
         go_wp2
         rw [← hW1]
         clear hW1
         refine qa3 (by kernel_rfl) (by kernel_rfl) ?_
         repeat (go_big_quiet_step ((first | (go_at_call 40;have hh := HK.out;exact qab (v := .int .i64 0) (hh _)) | (go_at_call 138;have hh := HA.out;exact qab (v := .bool false) (hh _)))))
         refine wpQuiet_nil ?_
         intro w2 hw'
         have hb12 : Below W1.heap.size W1 w2 := by obtain ⟨p,rfl⟩ := hw';exact qa4 W1 p
         clear hw' e0 e1 e2 e3 e4
         go_wp2
         go_ret
         exact ⟨qac (Hbad.out Hok.out).symm,hb1.trans (hb12.mono hzW)⟩
        ·have Hok := Lib.hid (show okRow rows cands kind k = true by rw [hok2, decide_eq_true (by omega : 0 < many)]; rfl)
         clear hok2
         go_wp2
         rw [← hW1]
         clear hW1
         refine qa3 (by kernel_rfl) (by kernel_rfl) ?_
         repeat (go_big_quiet_step ((first | (go_at_call 40;have hh := HK.out;exact qab (v := .int .i64 0) (hh _)) | (go_at_call 138;have hh := HA.out;exact qab (v := .bool true) (hh _)))))
         refine wpQuiet_nil ?_
         intro w2 hw'
         have hb12 : Below W1.heap.size W1 w2 := by obtain ⟨p,rfl⟩ := hw';exact qa4 W1 p
         clear hw' e0 e1 e2 e3 e4
         go_wp2
         exact ⟨⟨k + 1,by omega,by go_num,Lib.hid (by rw [List.range_succ,List.all_append,hg.out];simpa using Hok.out),hb1r.trans (hb12.mono hb1r.size)⟩,by simp [intOf];omega⟩
       ·have hq1' : (q != 0) = true := by simpa using hq0
        have Hok := Lib.hid (show okRow rows cands kind k = false by rw [hok2,decide_eq_false hq0,Bool.and_false,Bool.and_false])
        clear hok2 hq0
        go_wp2
        rw [← hW1]
        clear hW1
        refine qa3 (by kernel_rfl) (by kernel_rfl) ?_
        repeat (go_big_quiet_step ((go_at_call 40;have hh := HK.out;exact qab (v := .int .i64 q) (hh _))))
        refine wpQuiet_nil ?_
        intro w2 hw'
        have hb12 : Below W1.heap.size W1 w2 := by obtain ⟨p,rfl⟩ := hw';exact qa4 W1 p
        clear hw' e0 e1 e2 e3 e4
        go_wp2
        go_ret
        exact ⟨qac (Hbad.out Hok.out).symm,hb1.trans (hb12.mono hzW)⟩
    ·obtain rfl : k = n := by omega
     have hfine : fineP ⟨cands,kind,rows⟩ = true := by rw [fineP];simp only;rw [Hn.out];exact hg.out
     have hpos : ∀ r ∈ rows,0 ≤ r.many := fun r hr => by
      obtain ⟨i,hi,rfl⟩ := List.getElem_of_mem hr
      have := List.all_eq_true.1 hfine i (List.mem_range.2 hi)
      simp only at this
      rw [okRow_at hi] at this
      simp only [Bool.and_eq_true,decide_eq_true_eq] at this
      omega
     have hS := r09Sums S _ rows W1 (HH.out W1 hb1) hpos
     have hr := Hr.out
     rw [if_pos hfine] at hr
     rw [hW1] at hS
     clear e0 e1 c0 c1 hfine hpos
     by_cases hs : 1000000 < sumR rows
     ·rw [if_pos hs] at hr
      rw [sumsR,if_pos hs] at hS
      have Hr2 := Lib.hid hr;have HS := Lib.hid hS
      clear hr hS hs
      subst hW1
      go_wp2_with (go_at_call 139;refine HS.out.mono ?_;rintro e w3 ⟨rfl,rfl⟩)
      go_ret
      exact ⟨qac Hr2.out.symm,hb1⟩
     ·rw [if_neg hs] at hr
      rw [sumsR,if_neg hs] at hS
      obtain ⟨s,hse⟩ : ∃ s,sumR rows = s := ⟨_,rfl⟩
      rw [hse] at hS hs
      have Hr2 := Lib.hid hr;have HS := Lib.hid hS
      clear hr hS hse
      subst hW1
      go_wp2_with (go_at_call 139;refine HS.out.mono ?_;rintro e w3 ⟨rfl,rfl⟩)
      go_ret
      exact ⟨qac Hr2.out.symm,hb1⟩
  ·have hn' : newOk cands kind = false := by simpa using hn
   have hr : chkP ⟨cands,kind,rows⟩ = 8 := by rw [chkP,if_neg h64];simp only [hn',Bool.and_false];rfl
   have hN2 := fun W => (hN W).mono fun e w' (hh : _ ∧ _) => (show e = .returned (.tuple #[.agg #[.int .i64 0,.int .u8 0,.slice none 0 0],.int .i64 2]) ∧ Below W.heap.size W w' from by simpa [newP,newI,hn',noP] using hh)
   have HN := Lib.hid hN2;have Hr := Lib.hid hr
   clear hN hN2 hr h1 h2 hae hR hn hn' h64
   go_enter Tryz.func71,Tryz.ntmps71
   go_wp2_with (go_at_call 137;refine (HN.out _).mono ?_;rintro e w1 ⟨rfl,hb1⟩;have hq1 : Below w.heap.size w w1 := hb0.trans (hb1.mono (by simp)))
   go_ret
   exact ⟨qac Hr.out.symm,hq1.alloc hq1.size _⟩
end

section
open Go Go.RowKit Go.Shelf

theorem countI_r {p : Prof} {kind seats most : Int} {lot : List Int} (h : chkP p = 0) : countI p kind seats most lot = if p.kind ≠ kind then 8 else if seats < 1 ∨ most < seats ∨ 10 < seats ∨ lotR lot p.cands = false then 2 else 0 := by
 have hc : 1 ≤ p.cands ∧ p.cands ≤ 10 := by
  unfold chkP at h
  split at h
  ·omega
  ·split at h
   ·rename_i h2
    simp only [Bool.and_eq_true] at h2
    have := newOk_iff.1 h2.2
    omega
   ·omega
 rw [countI,lotR_eq hc]
 by_cases hk : p.kind = kind
 ·rw [if_neg (show ¬ (chkP p ≠ 0 ∨ p.kind ≠ kind) by simp [h,hk]),if_neg (show ¬ p.kind ≠ kind by simp [hk])]
 ·rw [if_pos (show chkP p ≠ 0 ∨ p.kind ≠ kind from .inr hk),if_pos hk]
set_option maxHeartbeats 2000000 in
set_option maxRecDepth 100000 in
theorem r11May (S T : Nat → Prop) (u v : Value) (p : Prof) (kind seats most : Int) (lot : List Int) (w : World) (h : VProf S w u p) (hv : RInts T w v lot) :
  Calls Tryz.prog 64 #[u,.int .u8 kind,.int .i64 seats,.int .i64 most,v] w fun e w' => e = .returned (.int .i64 (countI p kind seats most lot)) ∧ Below w.heap.size w w' := by
 have h0 := h
 obtain ⟨a,cap,rfl,-,-,-⟩ := h
 obtain ⟨a2,cap2,rfl,-,-⟩ := RSl.shape hv
 have hb0 := qa1 w (.cells #[.int .i64 p.cands,.int .u8 p.kind,.slice a p.rows.length cap] 24)
 have hbx := qa8 w (.cells #[.int .i64 p.cands,.int .u8 p.kind,.slice a p.rows.length cap] 24)
 have hC := r09Check S _ p _ (h0.same (.of_below hb0))
 have hL := fun W (hW : Below w.heap.size w W) => r11Lot T _ lot p.cands W (hv.same (.of_below hW))
 obtain ⟨q,hq⟩ : ∃ q,chkP p = q := ⟨_,rfl⟩
 obtain ⟨n,hn⟩ : ∃ n,p.rows.length = n := ⟨_,rfl⟩
 obtain ⟨nl,hnl⟩ : ∃ nl,lot.length = nl := ⟨_,rfl⟩
 obtain ⟨cc,hcc⟩ : ∃ c,p.cands = c := ⟨_,rfl⟩
 obtain ⟨kk,hkk⟩ : ∃ c,p.kind = c := ⟨_,rfl⟩
 have hcr := fun hc => countI_r (p := p) (kind := kind) (seats := seats) (most := most) (lot := lot) hc
 have hc8 : q ≠ 0 → countI p kind seats most lot = 8 := fun h => by rw [countI,if_pos (.inl (by rw [hq];exact h))]
 rw [hq,hcc,hkk] at hcr
 rw [hq] at hC
 rw [hcc,hkk,hn] at hC hb0 hbx
 rw [hnl,hcc] at hL
 rw [hcc,hkk,hn,hnl]
 obtain ⟨lb,hlb⟩ : ∃ lb,lotR lot cc = lb := ⟨_,rfl⟩
 rw [hlb] at hL hcr
 obtain ⟨I,hI⟩ : ∃ I,countI p kind seats most lot = I := ⟨_,rfl⟩
 rw [hI] at hcr hc8 ⊢
 have HC := Lib.hid hC;have HL := Lib.hid hL;have Hbx := Lib.hid hbx
 clear hC hL hbx h0 hv hn hnl hcc hkk hlb hI hq
 by_cases hq : q = 0
 ·subst hq
  replace hcr := hcr rfl
  clear hc8
  by_cases hk : kk = kind
  ·rw [if_neg (by simp [hk])] at hcr
   have hkq : (kk != kind) = false := by simpa using hk
   have hways : (seats < 1 ∧ I = 2) ∨ (¬ seats < 1 ∧ most < seats ∧ I = 2) ∨ (¬ seats < 1 ∧ ¬ most < seats ∧ 10 < seats ∧ I = 2) ∨ (¬ seats < 1 ∧ ¬ most < seats ∧ ¬ 10 < seats ∧ ((lb = false ∧ I = 2) ∨ (lb = true ∧ I = 0))) := by
    by_cases h1 : seats < 1
    ·exact .inl ⟨h1,by rw [hcr,if_pos (.inl h1)]⟩
    ·by_cases h2 : most < seats
     ·exact .inr (.inl ⟨h1,h2,by rw [hcr,if_pos (.inr (.inl h2))]⟩)
     ·by_cases h3 : 10 < seats
      ·exact .inr (.inr (.inl ⟨h1,h2,h3,by rw [hcr,if_pos (.inr (.inr (.inl h3)))]⟩))
      ·refine .inr (.inr (.inr ⟨h1, h2, h3, ?_⟩))
       cases lb
       ·exact .inl ⟨rfl,by rw [hcr,if_pos (.inr (.inr (.inr rfl)))]⟩
       ·exact .inr ⟨rfl,by rw [hcr,if_neg (by simp [h1,h2,h3])]⟩
   clear hcr hk
   rcases hways with ⟨h1,rfl⟩ | ⟨h1,h2,rfl⟩ | ⟨h1,h2,h3,rfl⟩ | ⟨h1,h2,h3,⟨rfl,rfl⟩ | ⟨rfl,rfl⟩⟩
   all_goals
    go_enter Tryz.func64,Tryz.ntmps64
    go_wp2_with (first
     | (go_at_call 71;refine HC.out.mono ?_;rintro e w1 ⟨rfl,hbN⟩;have hq1 := hb0.trans (hbN.mono (by simp));obtain ⟨-,gc,-⟩ := qa6 hbN (by simp) Hbx.out;have gc0 := gc 0;have gc1 := gc 1;clear gc)
     | (go_at_call 26;refine (HL.out _ hq1).mono ?_;rintro e w2 ⟨rfl,rfl⟩))
    go_ret
    exact ⟨rfl,hq1⟩
  ·rw [if_pos hk] at hcr
   subst hcr
   have hkq : (kk != kind) = true := by simpa using hk
   clear hk
   go_enter Tryz.func64,Tryz.ntmps64
   go_wp2_with (go_at_call 71;refine HC.out.mono ?_;rintro e w1 ⟨rfl,hbN⟩;have hq1 := hb0.trans (hbN.mono (by simp));obtain ⟨-,gc,-⟩ := qa6 hbN (by simp) Hbx.out;have gc0 := gc 0;have gc1 := gc 1;clear gc)
   go_ret
   exact ⟨rfl,hq1⟩
 ·have hI := hc8 hq
  subst hI
  have hqb : (q != 0) = true := by simpa using hq
  clear hcr hc8 hq
  go_enter Tryz.func64,Tryz.ntmps64
  go_wp2_with (go_at_call 71;refine HC.out.mono ?_;rintro e w1 ⟨rfl,hbN⟩;have hq1 := hb0.trans (hbN.mono (by simp)))
  go_ret
  exact ⟨rfl,hq1⟩
end

section
open Go Go.RowKit Go.Shelf

theorem in_c (S : Nat → Prop) (v : Value) (l : List Int) (n : Int) (w : World) (h : RInts S w v l) : Calls Tryz.prog 39 #[v,.int .i64 n] w fun e w' => e = .returned (.bool (hasI l n)) ∧ Below w.heap.size w w' :=
 (r11In S v l n w h).mono fun _ _ ⟨h1,h2⟩ => ⟨h1,h2 ▸ Below.refl _ _⟩
theorem VOutc.split {S : Nat → Prop} {w : World} {x1 x2 x3 : Value} {o : Outc} (h : VOutc S w (.agg #[x1,x2,x3]) o) : RInts S w x1 o.elected ∧ RRnds S w x2 o.rounds ∧ RTies S w x3 o.ties := by
 obtain ⟨y1,y2,y3,ye,q1,q2,q3⟩ := h
 simp only [Value.agg.injEq,Array.mk.injEq,List.cons.injEq,and_true] at ye
 obtain ⟨rfl,rfl,rfl⟩ := ye
 exact ⟨q1,q2,q3⟩
theorem VProf.agg {S : Nat → Prop} {w : World} {v : Value} {p : Prof} (h : VProf S w v p) : ∃ a m c,v = .agg #[.int .i64 p.cands,.int .u8 p.kind,.slice a m c] := by
 obtain ⟨a,c,rfl,-⟩ := h;exact ⟨a,_,c,rfl⟩
theorem Own.ints {base : Nat} {e : TypeId} {w : World} {v : Value} {xs : List Int} (h : Own base e 1 (dInt .i64) w v xs) (hl : xs.length ≤ 1000000) : RInts Any w v xs := RSl.mono (fun _ _ _ h => h) (fun _ _ => trivial) (Own.rsl h (by omega))
end
end Go.Proofs.YthcbkhfmdginiaaGreat
