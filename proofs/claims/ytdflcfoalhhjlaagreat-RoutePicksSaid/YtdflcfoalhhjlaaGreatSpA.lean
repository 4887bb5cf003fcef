/-
 Contracts of the functions that the law reaches,step by step.
-/
import Derived.Test.YtdflcfoalhhjlaaGreatAmO
namespace Go.Proofs
open Pk
set_option maxRecDepth 10000
abbrev ML := List (Int × Int)
abbrev MA (w : World) (r : Nat) (m : ML) := MapAt (Value.int .u64) (Value.int .u64) w r m
abbrev MV (w : World) (v : Value) (m : ML) := MapV (Value.int .u64) (Value.int .u64) w v m
theorem k23 : KeyEq Tryz.prog 27 (Value.int .u64) := keyEq_int (by simp)
theorem tm72 : Tryz.prog.underlying 163 = some (.map 27 27) := by simp
theorem z23 (w : World) : (zeroValue 27).run Tryz.prog w = .ok (.int .u64 0) w := by simp
abbrev PK := Int × Int
def pkc (p : PK) : List Value := [u32 p.1,u32 p.2]
def ekP (p : PK) : Value := .agg (pkc p).toArray
theorem f67 : flatA Tryz.prog 158 = some [.int .u32,.int .u32] := by kernel_rfl
theorem k67 : KeyEq Tryz.prog 158 ekP := keyEq_flat f67 (fun _ => rfl) fun a b => by
 obtain ⟨a1,a2⟩ := a
 obtain ⟨b1,b2⟩ := b
 by_cases h1 : a1 = b1 <;> by_cases h2 : a2 = b2 <;> simp [pkc,eqcs,eqc,h1,h2]
theorem tm61 : Tryz.prog.underlying 140 = some (.map 158 163) := by simp
theorem z72 (w : World) : (zeroValue 163).run Tryz.prog w = .ok (.map none) w := by simp
end Go.Proofs
namespace Go.Proofs
open Pk
set_option maxRecDepth 10000
def top (n : Int) : Int := min n 4611686018427387903
def addT (a b : Int) : Int := top (top a + top b)
theorem top_le (n : Int) : top n ≤ 4611686018427387903 := by unfold top; omega
theorem top_0 {n : Int} (h : 0 ≤ n) : 0 ≤ top n := by unfold top; omega
theorem top_c (n : Int) (w : World) : FN Tryz.prog 151 [u64 n] w fun e w' => e = .returned (u64 (top n)) ∧ w' = w := by
 refine FN_enter Tryz.func151 rfl rfl (by kernel_rfl) ?_
 simp [top]
structure Sp2 where
 from' : Int
 til : Int
def spOk (s : Sp2) : Bool := decide (s.from' ≤ s.til) && decide (s.til ≤ 4611686018427387903)
abbrev spV (s : Sp2) : Value := .agg #[u64 s.from',u64 s.til]
theorem right_c (s : Sp2) (w : World) : FN Tryz.prog 136 [spV s] w fun e w' => e = .returned (.bool (spOk s)) ∧ Ext w w' := by
 refine FN_enter Tryz.func136 rfl rfl (by kernel_rfl) ?_
 have hE := (Ext.refl w).alloc (.cells #[u64 s.from',u64 s.til] 230)
 simp
 cases h1 : decide (s.from' ≤ s.til) with
 | true => simp [spOk,h1]; exact hE
 | false => simp [spOk,h1]; exact hE
theorem sclone_c {w : World} {v : Value} {xs : List Int} (h : Sl w 1 v xs.length (xs.map u64)) (hn : slN v = false) (hb : xs.length ≤ 1048576) :
  FN Tryz.prog 180 [v] w fun e w' => ∃ v',e = .returned v' ∧ w'.ownsRow w.heap.size 27 1 v' xs.length (xs.map u64) ∧ Ext w w' := by
 refine FN_enter Tryz.func180 rfl rfl (by kernel_rfl) ?_
 have hnl := h.isNil (P := Tryz.prog) (t := 180) (by simp) w
 rw [hn] at hnl
 simp [hnl]
 have hO := (Ch.start (base := w.heap.size) (e := 27) (s := 1) (Z := []) w (Nat.le_refl _)).1
 have hE := (Ext.refl w).alloc (.cells #[] 27)
 obtain ⟨v',w2,hr,ho,hM,-⟩ := append_own (P := Tryz.prog) (t := 180) (ty := 180) (e := 27) (s := 1) (by simp) (by simp) (by kernel_rfl) hO (h.ext hE) (by intro u hu; rw [List.mem_map] at hu; obtain ⟨x,_,rfl⟩ := hu; rfl) (by omega) (by simp)
 simp [hr]
 simp at ho
 refine ⟨ho,?_⟩
 exact ((hE.mod (S := fun k => w.heap.size ≤ k)).trans (hM.weaken fun i hi => by have := hi.2; simp only [slB] at this; omega)).ext fun _ h => h
theorem own_cell {w : World} {base e : Nat} {v : Value} {n : Nat} {xs : List Value} (h : w.ownsRow base e 1 v n xs) (j : Nat) (u : Value) (hj : xs[j]? = some u) : w.cell? ⟨slB v, j, none⟩ = some u := by
 have := (sl_of_own h).at_ j u hj
 rw [own_off h,Nat.zero_add] at this
 exact this
theorem own_set {w : World} {base e s : Nat} {v : Value} {n : Nat} {xs : List Value} (h : w.ownsRow base e s v n xs) (j : Nat) (hj : j < xs.length) (u : Value) : (w.setCell ⟨slB v, slO v + j, none⟩ u).ownsRow base e s v n (xs.set j u) := by
 obtain ⟨h1,h2⟩ := h
 refine ⟨by simpa using h1,?_⟩
 rcases h2 with ⟨rfl, rfl⟩ | ⟨g, cap, cur, rfl, a1, a2, a3, a4, a5, a6⟩
 ·simp at h1; subst h1; simp at hj
 ·refine .inr ⟨g, cap, cur.setIfInBounds j u, rfl, a1, ?_, a3, a4, by simpa using a5, ?_⟩
  ·simp only [slB,slO,Nat.zero_add]
   unfold World.setCell
   simp only [Array.getElem?_modify,if_pos]
   rw [a2]; rfl
  ·rw [← a6]
   apply List.ext_getElem?
   intro k
   simp only [List.getElem?_take,Array.getElem?_toList,List.getElem?_set,Array.getElem?_setIfInBounds,List.length_take,Array.length_toList]
   have hjs : j < n * s := by rw [← h1]; exact hj
   have hn : n * s ≤ cur.size := by rw [a5]; exact Nat.mul_le_mul_right _ a3
   by_cases hk : k < n * s
   ·rw [if_pos hk,if_pos hk]
    by_cases hkj : j = k
    ·subst hkj
     rw [if_pos rfl,if_pos (by omega),if_pos rfl,if_pos (by omega)]
    ·rw [if_neg hkj,if_neg hkj]
   ·rw [if_neg hk,if_neg hk]
    rw [if_neg (by omega)]
theorem own_set1 {w : World} {base e : Nat} {v : Value} {n : Nat} {xs : List Value} (h : w.ownsRow base e 1 v n xs) (j : Nat) (hj : j < xs.length) (u : Value) : (w.setCell ⟨slB v, j, none⟩ u).ownsRow base e 1 v n (xs.set j u) := by
 have := own_set h j hj u
 rwa [own_off h,Nat.zero_add] at this
theorem times_c {w : World} {v : Value} {xs : List Int} (h : Sl w 1 v xs.length (xs.map u64)) (hn : slN v = false) (hb : xs.length ≤ 1048576) :
  FN Tryz.prog 171 [v] w fun e w' => ∃ v',e = .returned v' ∧ w'.ownsRow w.heap.size 27 1 v' xs.length ((xs.map top).map u64) ∧ Ext w w' := by
 refine FN_enter Tryz.func171 rfl rfl (by kernel_rfl) ?_
 simp
 refine FN.mono (sclone_c h hn hb) ?_
 rintro _ w1 ⟨v',rfl,ho,hE⟩
 have hlen := fun ty W => (sl_of_own ho).isLen (P := Tryz.prog) (t := 180) (by simp) ty W
 simp [hlen]
 refine WC_loop (fun k ρ ds w' => ∃ i : Nat,k = xs.length - i ∧ i ≤ xs.length ∧ ρ 3 = v' ∧ ρ 8 = v' ∧ ρ 9 = .int .i64 xs.length ∧ ρ 10 = .int .i64 i ∧ ds = [] ∧ Ext w w' ∧ w'.ownsRow w.heap.size 27 1 v' xs.length ((((xs.take i).map top) ++ xs.drop i).map u64)) xs.length ⟨0,by simp [hE]; simpa using ho⟩ ?_
 rintro k ρ ds w2 ⟨i,rfl,hi,e3,e8,e9,e10,rfl,hE2,ho2⟩
 by_cases hlt : i < xs.length
 ·have ht := List.length_take_of_le hi
  have hc : ((((xs.take i).map top) ++ xs.drop i).map u64)[i]? = some (u64 xs[i]) := by
   rw [List.getElem?_map,List.getElem?_append_right (by rw [List.length_map,ht]; exact Nat.le_refl _),List.length_map,ht,Nat.sub_self,List.getElem?_drop,Nat.add_zero,List.getElem?_eq_getElem hlt]
   rfl
  have d := own_cell ho2 i _ hc
  have ix := (sl_of_own ho2).index (P := Tryz.prog) (t := 180) (by simp) .i64 i (by omega) (by omega) w2
  have hoff := own_off ho2
  have hth := own_thaw ho2 (by omega) i
  simp [e3,e8,e9,e10,hlt,ix,hoff,d]
  refine FN.mono (top_c xs[i] w2) ?_
  rintro _ _ ⟨rfl,rfl⟩
  rename_i w2
  simp [e3,e8,e9,e10,ix,hoff,d,hth]
  have hge := own_ge ho2 (own_nil ho2 (by omega))
  refine ⟨xs.length - (i + 1),by omega,i + 1,rfl,by omega,by rw [wrap64 _ (by omega) (by omega)]; rfl,hE2.setCell _ _ hge,?_⟩
  have := own_set1 ho2 i (by simp; omega) (u64 (top xs[i]))
  have e : ((((xs.take i).map top) ++ xs.drop i).map u64).set i (u64 (top xs[i])) = ((((xs.take (i + 1)).map top) ++ xs.drop (i + 1)).map u64) := by
   rw [List.map_append,List.set_append_right _ _ (by simp; omega)]
   simp only [List.length_map,ht,Nat.sub_self]
   rw [List.drop_eq_getElem_cons hlt,List.map_cons,List.set_cons_zero,List.take_add_one,List.getElem?_eq_getElem hlt,Option.toList_some,List.map_append,List.map_append,List.map_append,List.append_assoc]
   rfl
  rw [e] at this
  simpa using this
 ·have : i = xs.length := by omega
  subst this
  simp [e3,e9,e10]
  refine ⟨?_,hE2⟩
  simpa using ho2
theorem put_c {w : World} {b : Nat} {n x : Int} (hv : Var w b (u64 n)) (h0 : 0 ≤ n) (h1 : n ≤ 4611686018427387903) (h2 : 0 ≤ x) (h3 : x ≤ 4611686018427387903) : FN Tryz.prog 170 [u64 x, ptr b] w fun e w' => (∃ u, e = .returned u) ∧ w' = w.setCell ⟨b, 0, none⟩ (u64 (top (n + x))) := by
 refine FN_enter Tryz.func170 rfl rfl (by kernel_rfl) ?_
 simp [hv.cell]
 rw [wrap64u _ (by omega) (by omega)]
 refine FN.mono (top_c (n + x) w) ?_
 rintro _ _ ⟨rfl,rfl⟩
 simp [hv.cell,hv.thaw]
theorem add_c (a b : Int) (ha : 0 ≤ a) (hb : 0 ≤ b) (w : World) : FN Tryz.prog 156 [u64 a, u64 b] w fun e w' => e = .returned (u64 (addT a b)) ∧ Ext w w' := by
 refine FN_enter Tryz.func156 rfl rfl (by kernel_rfl) ?_
 simp
 have h1 := (Ext.refl w).alloc (.cells #[u64 0] 27)
 have v0 := Var.new w (u64 0) 27
 have hsz : (w.alloc (.cells #[u64 0] 27)).heap.size = w.heap.size + 1 := by simp
 generalize (w.alloc (.cells #[u64 0] 27)) = w1 at *
 have hs := Sl.made w1 [u64 a,u64 b] 27 1 2 rfl
 rw [hsz] at hs
 have h2 := h1.trans ((Ext.refl w1).alloc (.cells #[u64 a,u64 b] 27))
 have v1 := v0.ext ((Ext.refl w1).alloc (.cells #[u64 a,u64 b] 27))
 refine FN.mono (times_c (xs := [a,b]) hs rfl (by simp)) ?_
 rintro _ w2 ⟨v',rfl,ho,hE⟩
 have hs' := sl_of_own ho
 have hge := own_ge ho (own_nil ho (by simp))
 simp [hsz] at hge
 have hlen := fun ty W => hs'.isLen (P := Tryz.prog) (t := 180) (by simp) ty W
 simp at hlen
 have v2 := v1.ext hE
 have h3 := h2.trans hE
 have c0 := hs'.at_ 0 (u64 (top a)) rfl
 have c1 := hs'.at_ 1 (u64 (top b)) rfl
 have ha0 := top_0 ha
 have hb0 := top_0 hb
 have ha1 := top_le a
 have hb1 := top_le b
 have ix0 := fun W => hs'.index (P := Tryz.prog) (t := 180) (by simp) .i64 0 (by omega) (by simp) W
 have ix1 := fun W => hs'.index (P := Tryz.prog) (t := 180) (by simp) .i64 1 (by omega) (by simp) W
 simp at c0 ix0 ix1
 simp [hlen]
 refine WC_loop (fun k ρ ds w' => ρ 5 = ptr w.heap.size ∧ ρ 6 = .func (.func 170) #[] #[ptr w.heap.size] ∧ ρ 13 = v' ∧ ρ 14 = .int .i64 2 ∧ ds = [] ∧
  (k = 2 ∧ ρ 15 = .int .i64 0 ∧ w' = w2 ∨ k = 1 ∧ ρ 15 = .int .i64 1 ∧ w' = w2.setCell ⟨w.heap.size,0,none⟩ (u64 (top a)) ∨ k = 0 ∧ ρ 15 = .int .i64 2 ∧ w' = (w2.setCell ⟨w.heap.size,0,none⟩ (u64 (top a))).setCell ⟨w.heap.size,0,none⟩ (u64 (addT a b)))) 2 ?_ ?_
 ·simp
 ·rintro k ρ ds w3 ⟨e5,e6,e13,e14,rfl,h⟩
  rcases h with ⟨rfl, e15, rfl⟩ | ⟨rfl, e15, rfl⟩ | ⟨rfl, e15, rfl⟩
  ·simp [e6,e13,e14,e15,ix0,c0]
   refine FN.mono (put_c v2 (by omega) (by omega) ha0 ha1) ?_
   rintro _ _ ⟨⟨u,rfl⟩,rfl⟩
   simp [e5,e6,e13,e14,e15]
   rw [wrap64 _ (by omega) (by omega)]
   have : top (top a) = top a := by unfold top; omega
   exact ⟨1,by omega,.inr (.inl ⟨rfl,rfl,by rw [this]⟩)⟩
  ·have v3 := v2.set (u64 (top a))
   have c1' : (w2.setCell ⟨w.heap.size, 0, none⟩ (u64 (top a))).cell? ⟨slB v', slO v' + 1, none⟩ = some (u64 (top b)) := by
    rw [World.cell?_setCell_other _ _ _ _ (by simp only [ne_eq,Addr.mk.injEq,and_true]; omega)]
    exact c1
   simp [e6,e13,e14,e15,ix1,c1']
   refine FN.mono (put_c v3 ha0 ha1 hb0 hb1) ?_
   rintro _ _ ⟨⟨u,rfl⟩,rfl⟩
   simp [e5,e6,e13,e14,e15]
   exact ⟨wrap64 _ (by omega) (by omega),rfl⟩
  ·have v3 := (v2.set (u64 (top a))).set (u64 (addT a b))
   simp [e5,e14,e15,v3.cell]
   exact (h3.setCell _ _ (Nat.le_refl _)).setCell _ _ (Nat.le_refl _)
end Go.Proofs