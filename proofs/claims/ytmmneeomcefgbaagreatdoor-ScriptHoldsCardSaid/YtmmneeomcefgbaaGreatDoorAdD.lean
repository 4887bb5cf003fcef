/-
 Contracts of the functions that the law reaches,step by step.
-/
import Derived.Test.YtmmneeomcefgbaaGreatDoorAdA
import Derived.Test.YtmmneeomcefgbaaGreatDoorAmO
import Derived.Lib.AppendZerosOnto
namespace Go.Proofs
open Pk
set_option maxRecDepth 10000
theorem five_mod (w : World) (c : Nat) (a0 a1 a2 a3 a4 : Value) : Mod (fun k => k = c) w (((((w.setCell ⟨c, 0, none⟩ a0).setCell ⟨c, 1, none⟩ a1).setCell ⟨c, 2, none⟩ a2).setCell ⟨c, 3, none⟩ a3).setCell ⟨c, 4, none⟩ a4) :=
 (((((Mod.refl _ _).setC _ _).setC _ _).setC _ _).setC _ _).setC _ _
theorem five_ext {w0 w : World} (h : Ext w0 w) {c : Nat} (hc : w0.heap.size ≤ c) (a0 a1 a2 a3 a4 : Value) : Ext w0 (((((w.setCell ⟨c, 0, none⟩ a0).setCell ⟨c, 1, none⟩ a1).setCell ⟨c, 2, none⟩ a2).setCell ⟨c, 3, none⟩ a3).setCell ⟨c, 4, none⟩ a4) :=
 ((((h.setCell _ _ hc).setCell _ _ hc).setCell _ _ hc).setCell _ _ hc).setCell _ _ hc
def uintI (n : Int) : It := .mk 1 n [] ⟨#[]⟩ []
def listI (l : List It) : It := .mk 4 0 [] ⟨#[]⟩ l
theorem leaf_it {Pd : Nat → Prop} {W : World} (k n : Int) : ItP Pd W (.mk k n [] ⟨#[]⟩ []) (leafC k n) :=
 itP_mk.2 ⟨_,_,[],rfl,SlB.nil W 1 0,SlB.nil W 5 0,fun h => (h rfl).elim,fun h => (h rfl).elim,itPs_nil,by simp,by simp⟩
theorem list_it {Pd : Nat → Prop} {W : World} {l : List It} {css : List (List Value)} {lv : Value} (h : SlB W 5 lv l.length css.flatten) (hc : ItPs Pd W l css) (hp : l ≠ [] → Pd (slB lv)) (hl : l.length ≤ 9223372036854775807) :
  ItP Pd W (listI l) [i64 4,u64 0,.slice none 0 0,.string ⟨#[]⟩,lv] :=
 itP_mk.2 ⟨_,_,css,rfl,SlB.nil W 1 0,h,fun h => (h rfl).elim,hp,hc,by simp,hl⟩
theorem made_it {Pd : Nat → Prop} {w : World} {l : List It} {css : List (List Value)} (hc : ItPs Pd w l css) (n : Nat) (hn : l.length = n) (hf : css.flatten.length = n * 5) (hp : Pd w.heap.size) (hn' : n ≤ 1000) (ty : TypeId) :
  ItP Pd (w.alloc (.cells css.flatten.toArray ty)) (listI l) [i64 4,u64 0,.slice none 0 0,.string ⟨#[]⟩,.slice (some ⟨w.heap.size,0,none⟩) n n] := by
 subst hn
 exact list_it (Sl.made w css.flatten ty 5 l.length hf).toB (hc.ext ((Ext.refl _).alloc _)) (fun _ => hp) (by omega)
theorem item64_c (x : Int) (w : World) : FN Tryz.prog 292 [u64 x] w fun e w' => e = .returned (leafV 1 x) ∧ Ext w w' := by
 refine FN_enter Tryz.func292 rfl rfl (by kernel_rfl) ?_
 simp
 exact (Ext.refl w).alloc _
theorem item32_c (x : Int) (hx : 0 ≤ x ∧ x ≤ 4294967295) (w : World) : FN Tryz.prog 293 [u32 x] w fun e w' => e = .returned (leafV 1 x) ∧ Ext w w' := by
 refine FN_enter Tryz.func293 rfl rfl (by kernel_rfl) ?_
 have q1 : IntKind.u64.wrap x = x := by simp [IntKind.wrap,IntKind.signed,IntKind.bits]; omega
 simp [q1]
 exact (Ext.refl w).alloc _
theorem itemi_c (x : Int) (hx : 0 ≤ x ∧ x ≤ 4294967295) (w : World) : FN Tryz.prog 309 [i64 x] w fun e w' => e = .returned (leafV 1 x) ∧ Ext w w' := by
 refine FN_enter Tryz.func309 rfl rfl (by kernel_rfl) ?_
 have q1 : IntKind.u64.wrap x = x := by simp [IntKind.wrap,IntKind.signed,IntKind.bits]; omega
 simp [q1]
 exact (Ext.refl w).alloc _
theorem nlist_c (a : Option Addr) (n c : Nat) (w : World) : FN Tryz.prog 290 [.slice a n c] w fun e w' => e = .returned (.agg #[i64 4, u64 0, .slice none 0 0, .string ⟨#[]⟩, .slice a n c]) ∧ Ext w w' := by
 refine FN_enter Tryz.func290 rfl rfl (by kernel_rfl) ?_
 simp
 exact (Ext.refl w).alloc _
structure Nam where
 nn : Int
 ns : Int
 nt : Int
 nq : Int
structure NamOk (n : Nam) : Prop where
 nn : 0 ≤ n.nn ∧ n.nn ≤ 4294967295
 ns : 0 ≤ n.ns ∧ n.ns ≤ 4294967295
 nq : 0 ≤ n.nq ∧ n.nq ≤ 4294967295
abbrev namC (n : Nam) : List Value := [u32 n.nn,u32 n.ns,u64 n.nt,u32 n.nq]
abbrev namV (n : Nam) : Value := .agg #[u32 n.nn,u32 n.ns,u64 n.nt,u32 n.nq]
def nameE (n : Nam) : Int := if n.nn = 0 then 2 else if 4611686018427387903 < n.nt then 2 else 0
def endI (n s : Int) : It := if n = 0 then listI [uintI 1,uintI 0] else listI [uintI 2,listI [uintI n,uintI s]]
def nameI (n : Nam) : It := listI [endI n.nn n.ns,uintI n.nt,uintI n.nq]
theorem checkName_c (n : Nam) (w : World) : FN Tryz.prog 261 [namV n] w fun e w' => e = .returned (i64 (nameE n)) ∧ Ext w w' := by
 refine FN_enter Tryz.func261 rfl rfl (by kernel_rfl) ?_
 unfold nameE
 by_cases h1 : n.nn = 0
 ·simp [h1]
  exact (Ext.refl w).alloc _
 ·have hb : (n.nn == 0) = false := by simp [h1]
  by_cases h2 : 4611686018427387903 < n.nt
  ·simp [h1,h2,hb]
   exact (Ext.refl w).alloc _
  ·simp [h1,h2,hb]
   exact (Ext.refl w).alloc _
set_option maxHeartbeats 1000000 in
theorem itemOf_c {n s : Int} (hn : 0 ≤ n ∧ n ≤ 4294967295) (hs : 0 ≤ s ∧ s ≤ 4294967295) (w : World) : FN Tryz.prog 291 [.agg #[u32 n, u32 s]] w fun e w' => ∃ v, e = .returned (.agg #[i64 4, u64 0, .slice none 0 0, .string ⟨#[]⟩, v]) ∧ (∃ a m c, v = .slice a m c) ∧ ItP (fun k => w.heap.size ≤ k) w' (endI n s) [i64 4, u64 0, .slice none 0 0, .string ⟨#[]⟩, v] ∧ Ext w w' := by
 refine FN_enter Tryz.func291 rfl rfl (by kernel_rfl) ?_
 simp
 have hE1 : Ext w ((w.alloc (.cells #[u32 n,u32 s] 26)).alloc (.cells #[i64 0,u64 0,.slice none 0 0,.string ⟨#[]⟩,.slice none 0 0] 160)) := ((Ext.refl _).alloc _).alloc _
 have o1 : Blk ((w.alloc (.cells #[u32 n,u32 s] 26)).alloc (.cells #[i64 0,u64 0,.slice none 0 0,.string ⟨#[]⟩,.slice none 0 0] 160)) w.heap.size [u32 n,u32 s] := (Blk.new w _ _).ext ((Ext.refl _).alloc _)
 have o2 : Blk ((w.alloc (.cells #[u32 n, u32 s] 26)).alloc (.cells #[i64 0, u64 0, .slice none 0 0, .string ⟨#[]⟩, .slice none 0 0] 160)) (w.heap.size + 1) (leafC 0 0) := by
  have := Blk.new (w.alloc (.cells #[u32 n,u32 s] 26)) (leafC 0 0) 160
  simpa using this
 have z1 : ((w.alloc (.cells #[u32 n,u32 s] 26)).alloc (.cells #[i64 0,u64 0,.slice none 0 0,.string ⟨#[]⟩,.slice none 0 0] 160)).heap.size = w.heap.size + 1 + 1 := by simp
 generalize ((w.alloc (.cells #[u32 n,u32 s] 26)).alloc (.cells #[i64 0,u64 0,.slice none 0 0,.string ⟨#[]⟩,.slice none 0 0] 160)) = w1 at *
 have fin : ∀ (w5 : World) (t : It) (v : Value), Ext w1 w5 → ItP (fun k => w1.heap.size ≤ k) w5 t [i64 4, u64 0, .slice none 0 0, .string ⟨#[]⟩, v] → ItP (fun k => w.heap.size ≤ k) (((((w5.setCell ⟨(w.heap.size + 1), 0, none⟩ (i64 4)).setCell ⟨(w.heap.size + 1), 1, none⟩ (u64 0)).setCell ⟨(w.heap.size + 1), 2, none⟩ (.slice none 0 0)).setCell ⟨(w.heap.size + 1), 3, none⟩ (.string ⟨#[]⟩)).setCell ⟨(w.heap.size + 1), 4, none⟩ v) t [i64 4, u64 0, .slice none 0 0, .string ⟨#[]⟩, v] ∧ Ext w (((((w5.setCell ⟨(w.heap.size + 1), 0, none⟩ (i64 4)).setCell ⟨(w.heap.size + 1), 1, none⟩ (u64 0)).setCell ⟨(w.heap.size + 1), 2, none⟩ (.slice none 0 0)).setCell ⟨(w.heap.size + 1), 3, none⟩ (.string ⟨#[]⟩)).setCell ⟨(w.heap.size + 1), 4, none⟩ v) := by
  intro w5 t v h5 hi
  exact ⟨hi.go (five_mod w5 (w.heap.size + 1) _ _ _ _ _) (fun k _ hk => ⟨by omega,by omega⟩),five_ext (hE1.trans h5) (by omega) _ _ _ _ _⟩
 by_cases h0 : n = 0
 ·have hb : (n == 0) = true := by simp [h0]
  have e0 : endI n s = listI [uintI 1,uintI 0] := by unfold endI; rw [if_pos h0]
  rw [e0]
  simp [hb]
  refine FN.mono (itemi_c 1 (by omega) w1) ?_
  rintro _ w2 ⟨rfl,hE2⟩
  simp
  refine FN.mono (itemi_c 0 (by omega) w2) ?_
  rintro _ w3 ⟨rfl,hE3⟩
  simp
  have z3 := (hE2.trans hE3).size
  have hm : ItP (fun k => w1.heap.size ≤ k) (w3.alloc (.cells #[i64 1, u64 1, .slice none 0 0, .string ⟨#[]⟩, .slice none 0 0, i64 1, u64 0, .slice none 0 0, .string ⟨#[]⟩, .slice none 0 0] 160)) (listI [uintI 1, uintI 0]) [i64 4, u64 0, .slice none 0 0, .string ⟨#[]⟩, .slice (some ⟨w3.heap.size, 0, none⟩) 2 2] :=
   made_it (css := [leafC 1 1,leafC 1 0]) (((itPs_nil).cons (leaf_it 1 0)).cons (leaf_it 1 1)) 2 rfl rfl z3 (by omega) 160
  have hE4 := (hE2.trans hE3).trans ((Ext.refl w3).alloc (.cells #[i64 1,u64 1,.slice none 0 0,.string ⟨#[]⟩,.slice none 0 0,i64 1,u64 0,.slice none 0 0,.string ⟨#[]⟩,.slice none 0 0] 160))
  generalize (w3.alloc (.cells #[i64 1,u64 1,.slice none 0 0,.string ⟨#[]⟩,.slice none 0 0,i64 1,u64 0,.slice none 0 0,.string ⟨#[]⟩,.slice none 0 0] 160)) = w4 at *
  refine FN.mono (nlist_c _ _ _ w4) ?_
  rintro _ w5 ⟨rfl,hE5⟩
  have o5 := (o2.ext hE4).ext hE5
  simp [o5.cell 0 _ rfl,o5.cell 1 _ rfl,o5.cell 2 _ rfl,o5.cell 3 _ rfl,o5.cell 4 _ rfl,o5.thaw,cell_setCell]
  exact fin w5 _ _ (hE4.trans hE5) (hm.ext hE5)
 ·have hb : (n == 0) = false := by simp [h0]
  have e0 : endI n s = listI [uintI 2,listI [uintI n,uintI s]] := by unfold endI; rw [if_neg h0]
  rw [e0]
  simp [hb]
  refine WC_drawC 6 (.F 1 <| .F 2 <| .F 4 <| .F 5 <| .C 0 <| .C 3 <| .Z) (fun _ => false) rfl (by kernel_rfl) fun W hW => ?_
  have hWE : Ext w1 W := hW ▸ Ext.drew _
  have p1 := o1.ext hWE
  simp [p1.cell 0 _ rfl,p1.cell 1 _ rfl]
  refine FN.mono (itemi_c 2 (by omega) W) ?_
  rintro _ w2 ⟨rfl,hE2⟩
  simp
  refine KR_ext hE2 ?_
  simp
  refine FN.mono (item32_c n hn w2) ?_
  rintro _ w3 ⟨rfl,hE3⟩
  simp
  refine KR_ext hE3 ?_
  simp
  refine FN.mono (item32_c s hs w3) ?_
  rintro _ w4 ⟨rfl,hE4⟩
  simp
  have hX4 := (hWE.trans hE2).trans (hE3.trans hE4)
  have z4 := hX4.size
  have hm : ItP (fun k => w1.heap.size ≤ k) (w4.alloc (.cells #[i64 1, u64 n, .slice none 0 0, .string ⟨#[]⟩, .slice none 0 0, i64 1, u64 s, .slice none 0 0, .string ⟨#[]⟩, .slice none 0 0] 160)) (listI [uintI n, uintI s]) [i64 4, u64 0, .slice none 0 0, .string ⟨#[]⟩, .slice (some ⟨w4.heap.size, 0, none⟩) 2 2] :=
   made_it (css := [leafC 1 n,leafC 1 s]) (((itPs_nil).cons (leaf_it 1 s)).cons (leaf_it 1 n)) 2 rfl rfl z4 (by omega) 160
  have hE5 := hX4.trans ((Ext.refl w4).alloc (.cells #[i64 1,u64 n,.slice none 0 0,.string ⟨#[]⟩,.slice none 0 0,i64 1,u64 s,.slice none 0 0,.string ⟨#[]⟩,.slice none 0 0] 160))
  generalize (w4.alloc (.cells #[i64 1,u64 n,.slice none 0 0,.string ⟨#[]⟩,.slice none 0 0,i64 1,u64 s,.slice none 0 0,.string ⟨#[]⟩,.slice none 0 0] 160)) = w5 at *
  refine FN.mono (nlist_c _ _ _ w5) ?_
  rintro _ w6 ⟨rfl,hE6⟩
  have z6 := hE6.size
  have z5 := hE5.size
  have hm2 : ItP (fun k => w1.heap.size ≤ k) (w6.alloc (.cells #[i64 1, u64 2, .slice none 0 0, .string ⟨#[]⟩, .slice none 0 0, i64 4, u64 0, .slice none 0 0, .string ⟨#[]⟩, .slice (some ⟨w4.heap.size, 0, none⟩) 2 2] 160)) (listI [uintI 2, listI [uintI n, uintI s]]) [i64 4, u64 0, .slice none 0 0, .string ⟨#[]⟩, .slice (some ⟨w6.heap.size, 0, none⟩) 2 2] :=
   made_it (css := [leafC 1 2,[i64 4,u64 0,.slice none 0 0,.string ⟨#[]⟩,.slice (some ⟨w4.heap.size,0,none⟩) 2 2]]) (((itPs_nil).cons (hm.ext hE6)).cons (leaf_it 1 2)) 2 rfl rfl (by omega) (by omega) 160
  have hE7 := (hE5.trans hE6).trans ((Ext.refl w6).alloc (.cells #[i64 1,u64 2,.slice none 0 0,.string ⟨#[]⟩,.slice none 0 0,i64 4,u64 0,.slice none 0 0,.string ⟨#[]⟩,.slice (some ⟨w4.heap.size,0,none⟩) 2 2] 160))
  simp
  generalize (w6.alloc (.cells #[i64 1,u64 2,.slice none 0 0,.string ⟨#[]⟩,.slice none 0 0,i64 4,u64 0,.slice none 0 0,.string ⟨#[]⟩,.slice (some ⟨w4.heap.size,0,none⟩) 2 2] 160)) = w7 at *
  refine FN.mono (nlist_c _ _ _ w7) ?_
  rintro _ w8 ⟨rfl,hE8⟩
  have o8 := (o2.ext hE7).ext hE8
  simp [o8.cell 0 _ rfl,o8.cell 1 _ rfl,o8.cell 2 _ rfl,o8.cell 3 _ rfl,o8.cell 4 _ rfl,o8.thaw,cell_setCell]
  exact fin w8 _ _ (hE7.trans hE8) (hm2.ext hE8)
set_option maxHeartbeats 1000000 in
theorem nitem1_c {n : Nam} (h : NamOk n) (w : World) : FN Tryz.prog 289 [namV n] w fun e w' => ∃ v, e = .returned (.agg #[i64 4, u64 0, .slice none 0 0, .string ⟨#[]⟩, v]) ∧ (∃ a m c, v = .slice a m c) ∧ ItP (fun k => w.heap.size ≤ k) w' (nameI n) [i64 4, u64 0, .slice none 0 0, .string ⟨#[]⟩, v] ∧ Ext w w' := by
 refine FN_enter Tryz.func289 rfl rfl (by kernel_rfl) ?_
 simp
 have hE1 : Ext w ((w.alloc (.cells #[u32 n.nn,u32 n.ns,u64 n.nt,u32 n.nq] 40)).alloc (.cells #[i64 0,u64 0,.slice none 0 0,.string ⟨#[]⟩,.slice none 0 0] 160)) := ((Ext.refl _).alloc _).alloc _
 have o1 : Blk ((w.alloc (.cells #[u32 n.nn,u32 n.ns,u64 n.nt,u32 n.nq] 40)).alloc (.cells #[i64 0,u64 0,.slice none 0 0,.string ⟨#[]⟩,.slice none 0 0] 160)) w.heap.size (namC n) := (Blk.new w _ _).ext ((Ext.refl _).alloc _)
 have o2 : Blk ((w.alloc (.cells #[u32 n.nn, u32 n.ns, u64 n.nt, u32 n.nq] 40)).alloc (.cells #[i64 0, u64 0, .slice none 0 0, .string ⟨#[]⟩, .slice none 0 0] 160)) (w.heap.size + 1) (leafC 0 0) := by
  have := Blk.new (w.alloc (.cells #[u32 n.nn,u32 n.ns,u64 n.nt,u32 n.nq] 40)) (leafC 0 0) 160
  simpa using this
 have z1 : ((w.alloc (.cells #[u32 n.nn,u32 n.ns,u64 n.nt,u32 n.nq] 40)).alloc (.cells #[i64 0,u64 0,.slice none 0 0,.string ⟨#[]⟩,.slice none 0 0] 160)).heap.size = w.heap.size + 1 + 1 := by simp
 generalize ((w.alloc (.cells #[u32 n.nn,u32 n.ns,u64 n.nt,u32 n.nq] 40)).alloc (.cells #[i64 0,u64 0,.slice none 0 0,.string ⟨#[]⟩,.slice none 0 0] 160)) = w1 at *
 have fin : ∀ (w5 : World) (t : It) (v : Value), Ext w1 w5 → ItP (fun k => w1.heap.size ≤ k) w5 t [i64 4, u64 0, .slice none 0 0, .string ⟨#[]⟩, v] → ItP (fun k => w.heap.size ≤ k) (((((w5.setCell ⟨(w.heap.size + 1), 0, none⟩ (i64 4)).setCell ⟨(w.heap.size + 1), 1, none⟩ (u64 0)).setCell ⟨(w.heap.size + 1), 2, none⟩ (.slice none 0 0)).setCell ⟨(w.heap.size + 1), 3, none⟩ (.string ⟨#[]⟩)).setCell ⟨(w.heap.size + 1), 4, none⟩ v) t [i64 4, u64 0, .slice none 0 0, .string ⟨#[]⟩, v] ∧ Ext w (((((w5.setCell ⟨(w.heap.size + 1), 0, none⟩ (i64 4)).setCell ⟨(w.heap.size + 1), 1, none⟩ (u64 0)).setCell ⟨(w.heap.size + 1), 2, none⟩ (.slice none 0 0)).setCell ⟨(w.heap.size + 1), 3, none⟩ (.string ⟨#[]⟩)).setCell ⟨(w.heap.size + 1), 4, none⟩ v) := by
  intro w5 t v h5 hi
  exact ⟨hi.go (five_mod w5 (w.heap.size + 1) _ _ _ _ _) (fun k _ hk => ⟨by omega,by omega⟩),five_ext (hE1.trans h5) (by omega) _ _ _ _ _⟩
 refine WC_drawC 8 (.F 0 <| .F 1 <| .F 3 <| .F 4 <| .F 6 <| .F 7 <| .C 2 <| .C 5 <| .Z) (fun _ => false) rfl (by kernel_rfl) fun W hW => ?_
 have hWE : Ext w1 W := hW ▸ Ext.drew _
 have p1 := o1.ext hWE
 simp [p1.cell 0 _ rfl,p1.cell 1 _ rfl,p1.cell 2 _ rfl,p1.cell 3 _ rfl]
 refine FN.mono (itemOf_c h.nn h.ns W) ?_
 rintro _ w2 ⟨v2,rfl,⟨a2,m2,c2,rfl⟩,hi2,hE2⟩
 simp
 refine KR_ext hE2 ?_
 simp
 refine FN.mono (item64_c n.nt w2) ?_
 rintro _ w3 ⟨rfl,hE3⟩
 simp
 refine KR_ext hE3 ?_
 simp
 refine FN.mono (item32_c n.nq h.nq w3) ?_
 rintro _ w4 ⟨rfl,hE4⟩
 simp
 have hX2 := hWE.trans hE2
 have hX4 := hX2.trans (hE3.trans hE4)
 have z4 := hX4.size
 have zW := hWE.size
 have hi4 : ItP (fun k => w1.heap.size ≤ k) w4 (endI n.nn n.ns) [i64 4,u64 0,.slice none 0 0,.string ⟨#[]⟩,.slice a2 m2 c2] := hi2.go ((hE3.trans hE4).mod (S := fun _ => False)) fun k _ hk => ⟨by omega,_root_.id⟩
 have hm : ItP (fun k => w1.heap.size ≤ k) (w4.alloc (.cells #[i64 4, u64 0, .slice none 0 0, .string ⟨#[]⟩, .slice a2 m2 c2, i64 1, u64 n.nt, .slice none 0 0, .string ⟨#[]⟩, .slice none 0 0, i64 1, u64 n.nq, .slice none 0 0, .string ⟨#[]⟩, .slice none 0 0] 160)) (nameI n) [i64 4, u64 0, .slice none 0 0, .string ⟨#[]⟩, .slice (some ⟨w4.heap.size, 0, none⟩) 3 3] :=
  made_it (css := [[i64 4,u64 0,.slice none 0 0,.string ⟨#[]⟩,.slice a2 m2 c2],leafC 1 n.nt,leafC 1 n.nq]) ((((itPs_nil).cons (leaf_it 1 n.nq)).cons (leaf_it 1 n.nt)).cons hi4) 3 rfl rfl z4 (by omega) 160
 have hE5 := hX4.trans ((Ext.refl w4).alloc (.cells #[i64 4,u64 0,.slice none 0 0,.string ⟨#[]⟩,.slice a2 m2 c2,i64 1,u64 n.nt,.slice none 0 0,.string ⟨#[]⟩,.slice none 0 0,i64 1,u64 n.nq,.slice none 0 0,.string ⟨#[]⟩,.slice none 0 0] 160))
 generalize (w4.alloc (.cells #[i64 4,u64 0,.slice none 0 0,.string ⟨#[]⟩,.slice a2 m2 c2,i64 1,u64 n.nt,.slice none 0 0,.string ⟨#[]⟩,.slice none 0 0,i64 1,u64 n.nq,.slice none 0 0,.string ⟨#[]⟩,.slice none 0 0] 160)) = w5 at *
 refine FN.mono (nlist_c _ _ _ w5) ?_
 rintro _ w6 ⟨rfl,hE6⟩
 have o6 := (o2.ext hE5).ext hE6
 simp [o6.cell 0 _ rfl,o6.cell 1 _ rfl,o6.cell 2 _ rfl,o6.cell 3 _ rfl,o6.cell 4 _ rfl,o6.thaw,cell_setCell]
 exact fin w6 _ _ (hE5.trans hE6) (hm.ext hE6)
def itemZ : It := .mk 0 0 [] ⟨#[]⟩ []
def ItAns (w w' : World) (t : It) (cs : List Value) : Prop := ItP (fun k => w.heap.size ≤ k) w' t cs ∧ (∃ k x v s u,cs = [i64 k,u64 x,v,.string s,u] ∧ (∃ a m c,v = .slice a m c) ∧ (∃ a m c,u = .slice a m c)) ∧ Ext w w'
set_option maxHeartbeats 1000000 in
theorem nmade_c {n : Nam} (h : NamOk n) (E : Int) (w : World) : FN Tryz.prog 288 [namV n, i64 E, .func (.func 289) #[] #[]] w fun e w' => ∃ cs, e = .returned (.tuple #[.agg cs.toArray, i64 E]) ∧ ItAns w w' (if E = 0 then nameI n else itemZ) cs := by
 refine FN_enter Tryz.func288 rfl rfl (by kernel_rfl) ?_
 simp
 have hE1 : Ext w ((w.alloc (.cells #[u32 n.nn,u32 n.ns,u64 n.nt,u32 n.nq] 40)).alloc (.cells #[i64 0,u64 0,.slice none 0 0,.string ⟨#[]⟩,.slice none 0 0] 160)) := ((Ext.refl _).alloc _).alloc _
 have o1 : Blk ((w.alloc (.cells #[u32 n.nn,u32 n.ns,u64 n.nt,u32 n.nq] 40)).alloc (.cells #[i64 0,u64 0,.slice none 0 0,.string ⟨#[]⟩,.slice none 0 0] 160)) w.heap.size (namC n) := (Blk.new w _ _).ext ((Ext.refl _).alloc _)
 have o2 : Blk ((w.alloc (.cells #[u32 n.nn, u32 n.ns, u64 n.nt, u32 n.nq] 40)).alloc (.cells #[i64 0, u64 0, .slice none 0 0, .string ⟨#[]⟩, .slice none 0 0] 160)) (w.heap.size + 1) (leafC 0 0) := by
  have := Blk.new (w.alloc (.cells #[u32 n.nn,u32 n.ns,u64 n.nt,u32 n.nq] 40)) (leafC 0 0) 160
  simpa using this
 have z1 : ((w.alloc (.cells #[u32 n.nn,u32 n.ns,u64 n.nt,u32 n.nq] 40)).alloc (.cells #[i64 0,u64 0,.slice none 0 0,.string ⟨#[]⟩,.slice none 0 0] 160)).heap.size = w.heap.size + 1 + 1 := by simp
 generalize ((w.alloc (.cells #[u32 n.nn,u32 n.ns,u64 n.nt,u32 n.nq] 40)).alloc (.cells #[i64 0,u64 0,.slice none 0 0,.string ⟨#[]⟩,.slice none 0 0] 160)) = w1 at *
 by_cases h0 : E = 0
 ·subst h0
  simp [o1.cell 0 _ rfl,o1.cell 1 _ rfl,o1.cell 2 _ rfl,o1.cell 3 _ rfl]
  refine FN.mono (nitem1_c h w1) ?_
  rintro _ w2 ⟨v2,rfl,⟨a2,m2,c2,rfl⟩,hi2,hE2⟩
  have o3 := o2.ext hE2
  simp [o3.cell 0 _ rfl,o3.cell 1 _ rfl,o3.cell 2 _ rfl,o3.cell 3 _ rfl,o3.cell 4 _ rfl,o3.thaw,cell_setCell]
  refine ⟨hi2.go (five_mod w2 (w.heap.size + 1) _ _ _ _ _) (fun k _ hk => ⟨by omega,by omega⟩),⟨_,_,_,_,_,rfl,⟨_,_,_,rfl⟩,⟨_,_,_,rfl⟩⟩,five_ext (hE1.trans hE2) (by omega) _ _ _ _ _⟩
 ·have hb : (E != 0) = true := by simp [h0]
  rw [if_neg h0]
  simp [hb,o2.cell 0 _ rfl,o2.cell 1 _ rfl,o2.cell 2 _ rfl,o2.cell 3 _ rfl,o2.cell 4 _ rfl,o2.thaw,cell_setCell]
  exact ⟨leaf_it 0 0,⟨_,_,_,_,_,rfl,⟨_,_,_,rfl⟩,⟨_,_,_,rfl⟩⟩,five_ext hE1 (by omega) _ _ _ _ _⟩
set_option maxHeartbeats 1000000 in
theorem nameItem_c {n : Nam} (h : NamOk n) (w : World) : FN Tryz.prog 255 [namV n] w fun e w' => ∃ cs, e = .returned (.tuple #[.agg cs.toArray, i64 (nameE n)]) ∧ ItAns w w' (if nameE n = 0 then nameI n else itemZ) cs := by
 refine FN_enter Tryz.func255 rfl rfl (by kernel_rfl) ?_
 simp
 have hE1 : Ext w ((w.alloc (.cells #[u32 n.nn,u32 n.ns,u64 n.nt,u32 n.nq] 40)).alloc (.cells #[i64 0,u64 0,.slice none 0 0,.string ⟨#[]⟩,.slice none 0 0] 160)) := ((Ext.refl _).alloc _).alloc _
 have o1 : Blk ((w.alloc (.cells #[u32 n.nn,u32 n.ns,u64 n.nt,u32 n.nq] 40)).alloc (.cells #[i64 0,u64 0,.slice none 0 0,.string ⟨#[]⟩,.slice none 0 0] 160)) w.heap.size (namC n) := (Blk.new w _ _).ext ((Ext.refl _).alloc _)
 have o2 : Blk ((w.alloc (.cells #[u32 n.nn, u32 n.ns, u64 n.nt, u32 n.nq] 40)).alloc (.cells #[i64 0, u64 0, .slice none 0 0, .string ⟨#[]⟩, .slice none 0 0] 160)) (w.heap.size + 1) (leafC 0 0) := by
  have := Blk.new (w.alloc (.cells #[u32 n.nn,u32 n.ns,u64 n.nt,u32 n.nq] 40)) (leafC 0 0) 160
  simpa using this
 have z1 : ((w.alloc (.cells #[u32 n.nn,u32 n.ns,u64 n.nt,u32 n.nq] 40)).alloc (.cells #[i64 0,u64 0,.slice none 0 0,.string ⟨#[]⟩,.slice none 0 0] 160)).heap.size = w.heap.size + 1 + 1 := by simp
 generalize ((w.alloc (.cells #[u32 n.nn,u32 n.ns,u64 n.nt,u32 n.nq] 40)).alloc (.cells #[i64 0,u64 0,.slice none 0 0,.string ⟨#[]⟩,.slice none 0 0] 160)) = w1 at *
 refine WC_drawC 6 (.F 0 <| .F 1 <| .C 2 <| .C 3 <| .F 4 <| .F 5 <| .Z) (fun _ => false) rfl (by kernel_rfl) fun W hW => ?_
 have hWE : Ext w1 W := hW ▸ Ext.drew _
 have p1 := o1.ext hWE
 simp [p1.cell 0 _ rfl,p1.cell 1 _ rfl,p1.cell 2 _ rfl,p1.cell 3 _ rfl]
 refine FN.mono (checkName_c n W) ?_
 rintro _ w2 ⟨rfl,hE2⟩
 simp
 refine KR_ext hE2 ?_
 simp
 refine FN.mono (nmade_c h (nameE n) w2) ?_
 rintro _ w3 ⟨cs,rfl,hi3,⟨k,x,v,s,u,rfl,⟨a,m,c,rfl⟩,⟨a',m',c',rfl⟩⟩,hE3⟩
 have o3 := (o2.ext (hWE.trans hE2)).ext hE3
 have z2 := (hWE.trans hE2).size
 simp
 refine KR_ext hE3 ?_
 simp [o3.cell 0 _ rfl,o3.cell 1 _ rfl,o3.cell 2 _ rfl,o3.cell 3 _ rfl,o3.cell 4 _ rfl,o3.thaw,cell_setCell]
 refine ⟨hi3.go (five_mod w3 (w.heap.size + 1) _ _ _ _ _) (fun k _ hk => ⟨by omega,by omega⟩),⟨_,_,_,_,_,rfl,⟨_,_,_,rfl⟩,⟨_,_,_,rfl⟩⟩,five_ext (hE1.trans ((hWE.trans hE2).trans hE3)) (by omega) _ _ _ _ _⟩
end Go.Proofs
namespace Go.Proofs
open Pk
set_option maxRecDepth 10000
theorem append_zeros {P : Program} {w : World} {base n k : Nat} {t tn ty e : TypeId} {kn kq : IntKind} {i : TypeInfo} {z : Value} {v : Value} {xs zs : List Value} (ht : P.underlying t = some (.slice e)) (htn : P.underlying tn = some (.int kn)) (hi : P.info? e = some i) (hz : i.zero = some z) (hz1 : z.cells.size = 1) (hs1 : i.size = 1) (hby : i.bytes ≤ 8)
  (hown : w.ownsRow base e 1 v n xs) (hk : 0 < k) (hzs : Builtin.zeroCells z.cells k = zs.toArray) (h1 : ∀ u ∈ zs,u.oneCell' = true) (hb : n + k ≤ 1048576) (hbase : base ≤ w.heap.size) :
  ∃ v' w',(Builtin.append_ #[t,tn] ty #[v,.int kq k]).run P w = .ok v' w' ∧ w'.ownsRow base e 1 v' (n + k) (xs ++ zs) ∧ Mod (fun j => slN v = false ∧ j = slB v) w w' ∧ (slN v' = false → (slN v = false ∧ slB v' = slB v) ∨ w.heap.size ≤ slB v') := by
 have hzl : zs.length = k := by
  have h2 := congrArg Array.size hzs
  rw [size_zeroCells,hz1] at h2
  simpa using h2.symm
 have hxl : xs.length = n := by have := hown.1; simpa using this
 have hw : IntKind.i64.wrap (k : Int) = k := wrap64 _ (by omega) (by omega)
 have hlen : (xs ++ zs).length = (n + k) * 1 := by rw [List.length_append,hxl,hzl]; omega
 have grow : ∀ (old : Nat) (a : Option Addr), old < n + k → v = .slice a n old → (Builtin.firstCells i.size n (.slice a n old)).run P w.drew = .ok xs.toArray w.drew →
   ∃ v' w',(Builtin.append_ #[t,tn] ty #[v,.int kq k]).run P w = .ok v' w' ∧ w'.ownsRow base e 1 v' (n + k) (xs ++ zs) ∧ Mod (fun j => slN v = false ∧ j = slB v) w w' ∧ (slN v' = false → (slN v = false ∧ slB v' = slB v) ∨ w.heap.size ≤ slB v') := by
  intro old a ho hv hold
  subst hv
  have hfit : Builtin.nextslicecap (n + k) old * i.bytes ≤ 281474976710656 := growslice_fits (by omega) (by have := Nat.mul_le_mul hb hby; omega)
  have hr := Go.Lib.run_append_grow_zeros (P := P) w t tn ty e i z kq kn ht htn hi hz a n old xs hold k hk (by omega) (by omega) (by omega) (by have := Nat.mul_le_mul (show k ≤ 1048576 by omega) hby; omega) hfit
  have hge := grownCap_ge w (n + k) old e
  have hcm := grownCap_le_maxLen w (n + k) old e (by simp only [maxLen]; omega)
  refine ⟨_, _, hr, ⟨hlen, .inr ⟨w.heap.size, _, _, rfl, hbase, World.alloc_heap_new w.drew _, hge, hcm, ?_, ?_⟩⟩, ((Ext.drew w).alloc _).mod, fun _ => .inr (Nat.le_refl _)⟩
  ·rw [hzs]
   simp only [Array.size_append,List.size_toArray,size_zeroCells,hz1,hxl,hzl]
   omega
  ·rw [hzs]
   simp only [Array.toList_append,List.append_assoc]
   rw [← List.append_assoc,← hlen]
   exact List.take_left
 rcases hown.2 with ⟨rfl, rfl⟩ | ⟨g, cap, cur, rfl, hbg, hg, hnc, hcm, hcs, htake⟩
 ·have hx : xs = [] := List.eq_nil_of_length_eq_zero hxl
  subst hx
  exact grow 0 none (by omega) rfl (run_firstCells_none _ _ _ _ _)
 ·by_cases hroom : n + k ≤ cap
  ·have hst := run_storeCells_at P g n e zs 0 cur w hg (by rw [hzl,hcs]; omega) h1
   simp only [Nat.add_zero] at hst
   have hneg : ¬ ((k : Int) < 0) := by omega
   have hk0 : ¬ k = 0 := by omega
   have hst' := hst
   rw [show zs = (Builtin.zeroCells z.cells k).toList by rw [hzs]] at hst'
   dsimp only [Value.cells] at hst'
   have hns : ¬ (k * i.size = 0) := by rw [hs1]; omega
   have h48i : ¬ (281474976710656 < (k : Int) * (i.bytes : Int)) := by
    rw [← Int.natCast_mul]
    have := Nat.mul_le_mul (show k ≤ 1048576 by omega) hby
    omega
   have hr : (Builtin.append_ #[t, tn] ty #[.slice (some ⟨g, 0, none⟩) n cap, .int kq k]).run P w = .ok (.slice (some ⟨g, 0, none⟩) (n + k) cap) (w.setRow g (cur.toList.take n ++ zs ++ cur.toList.drop (n + zs.length)).toArray) := by
    simp [Builtin.append_,run_underlying ht,run_underlying htn,sizeOf,typeInfo,zeroValue,hi,hz,asInt,asIntOf,hw,hneg,h48i,hroom,hs1,hk0,hst']
    exact (congrArg (fun (a : Array Value) => w.setRow g (List.take n cur.toList ++ (a.toList ++ List.drop (n + a.size) cur.toList)).toArray) hzs).trans (by simp)
   refine ⟨_, _, hr, ⟨hlen, .inr ⟨g, cap, _, rfl, hbg, setRow_heap w g cur _ e _ hg, hroom, hcm, ?_, ?_⟩⟩, ⟨rfl, rfl, rfl, by simp, fun j _ hj => setRow_other w g j _ (fun e => hj ⟨rfl, e⟩)⟩, fun _ => .inl ⟨rfl, rfl⟩⟩
   ·simp only [List.size_toArray,List.length_append,List.length_take,List.length_drop,Array.length_toList]
    omega
   ·rw [Nat.mul_one] at htake
    rw [htake,← hlen]
    exact List.take_left
  ·refine grow cap (some ⟨g,0,none⟩) (by omega) rfl ?_
   rw [hs1]
   exact run_firstCells_some w.drew 1 n ⟨g,0,none⟩ n cap xs hown.1 (fun j u hj => by simpa using hown.cells (g := g) rfl j u hj)
end Go.Proofs
namespace Go.Proofs
open Pk
set_option maxRecDepth 10000
def nam0 : Nam := ⟨0,0,0,0⟩
def namOfL (l : List Int) : Nam := ⟨IntKind.u32.wrap (l[3]?.getD 0),IntKind.u32.wrap (l[4]?.getD 0),l[0]?.getD 0,IntKind.u32.wrap (l[1]?.getD 0)⟩
set_option maxHeartbeats 1000000 in
theorem nameOf1_c {w : World} {v : Value} {l : List Int} (h : Sl w 1 v l.length (l.map u64)) (hl : 5 ≤ l.length) (hb : l.length ≤ 2000000) : FN Tryz.prog 295 [v] w fun e w' => e = .returned (namV (namOfL l)) ∧ Ext w w' := by
 refine FN_enter Tryz.func295 rfl rfl (by kernel_rfl) ?_
 simp
 have hE1 : Ext w (w.alloc (.cells #[u32 0,u32 0,u64 0,u32 0] 40)) := (Ext.refl _).alloc _
 have o1 : Blk (w.alloc (.cells #[u32 0,u32 0,u64 0,u32 0] 40)) w.heap.size [u32 0,u32 0,u64 0,u32 0] := Blk.new w _ _
 generalize (w.alloc (.cells #[u32 0,u32 0,u64 0,u32 0] 40)) = w1 at *
 refine WC_drawC 16 (.F 0 <| .F 1 <| .F 2 <| .F 3 <| .F 4 <| .F 5 <| .F 6 <| .F 7 <| .F 8 <| .F 9 <| .F 10 <| .F 11 <| .F 12 <| .F 13 <| .F 14 <| .F 15 <| .Z) (fun _ => false) rfl (by kernel_rfl) fun W hW => ?_
 have hWE : Ext w1 W := hW ▸ Ext.drew _
 have hS := (h.ext hE1).ext hWE
 have ix := fun (i : Nat) (hi : i < l.length) => by
  have := hS.index (P := Tryz.prog) (t := 83) (by simp) .i64 i (by omega) (by omega) W
  simp at this
  exact this
 have c := fun (i : Nat) (hi : i < l.length) => hS.at_ i (u64 (l[i]?.getD 0)) (by rw [List.getElem?_map,List.getElem?_eq_getElem hi]; rfl)
 have c0 := c 0 (by omega)
 rw [Nat.add_zero] at c0
 have i0 := ix 0 (by omega)
 have i1 := ix 1 (by omega)
 have i3 := ix 3 (by omega)
 have i4 := ix 4 (by omega)
 simp at i0 i1 i3 i4
 have o2 := o1.ext hWE
 simp [i0,i1,i3,i4,c0,c 1 (by omega),c 3 (by omega),c 4 (by omega),o2.cell 0 _ rfl,o2.cell 1 _ rfl,o2.cell 2 _ rfl,o2.cell 3 _ rfl,o2.thaw,cell_setCell]
 have zc := (Nat.le_refl w.heap.size)
 exact ⟨⟨rfl,rfl,rfl,rfl⟩,((((hE1.trans hWE).setCell _ _ zc).setCell _ _ zc).setCell _ _ zc).setCell _ _ zc⟩
theorem flat_take_le {α β : Type} (l : List α) (f : α → List β) (i : Nat) : ((l.take i).flatMap f).length ≤ (l.flatMap f).length := by
 conv => rhs; rw [← List.take_append_drop i l]
 rw [List.flatMap_append,List.length_append]
 omega
theorem flat_take_succ {α β : Type} {l : List α} (f : α → List β) {i : Nat} {x : α} (h : l[i]? = some x) : (l.take (i + 1)).flatMap f = (l.take i).flatMap f ++ f x := by
 rw [List.take_add_one,h,Option.toList_some,List.flatMap_append,List.flatMap_singleton]
def numsY (y : It) : List Int := uintsOf y ++ y.l.flatMap uintsOf
def numsOf (t : It) : List Int := uintsOf t ++ t.l.flatMap numsY
def namN (t : It) : Nam := namOfL (numsOf t ++ [0,0,0,0,0])
noncomputable def namF (t : It) : Bool := decide (nameE (namN t) = 0) && decide (t = nameI (namN t))
theorem wrap32b (x : Int) : 0 ≤ IntKind.u32.wrap x ∧ IntKind.u32.wrap x ≤ 4294967295 := by
 simp only [IntKind.wrap,IntKind.bits,IntKind.signed]
 have := Int.emod_nonneg x (b := 2 ^ 32) (by decide)
 have := Int.emod_lt_of_pos x (b := 2 ^ 32) (by decide)
 simp
 omega
theorem namOfL_ok (l : List Int) : NamOk (namOfL l) := ⟨wrap32b _,wrap32b _,wrap32b _⟩
set_option maxHeartbeats 4000000 in
theorem nread_c {w : World} {t : It} {cs : List Value} (ht : ItC w t cs) (hn : (numsOf t).length ≤ 1000000) :
  FN Tryz.prog 294 [.agg cs.toArray,.func (.func 255) #[] #[],.func (.func 295) #[] #[]] w fun e w' => e = .returned (if namF t then .tuple #[namV (namN t),i64 0] else .tuple #[namV nam0,i64 130]) ∧ Ext w w' := by
 obtain ⟨ba,bc,la,lc,css,hO⟩ := itO ht
 have ecs := hO.cs
 have hcs : cs.toArray = #[i64 t.k,u64 t.n,.slice ba t.b.length bc,.string t.s,.slice la t.l.length lc] := by rw [ecs]
 rw [hcs]
 refine FN_enter Tryz.func294 rfl rfl (by kernel_rfl) ?_
 simp
 have hE1 : Ext w (((w.alloc (.cells #[i64 t.k,u64 t.n,.slice ba t.b.length bc,.string t.s,.slice la t.l.length lc] 160)).alloc (.cells #[u32 0,u32 0,u64 0,u32 0] 40)).alloc (.cells #[.slice none 0 0] 83)) := (((Ext.refl _).alloc _).alloc _).alloc _
 have o3 : Blk (((w.alloc (.cells #[i64 t.k, u64 t.n, .slice ba t.b.length bc, .string t.s, .slice la t.l.length lc] 160)).alloc (.cells #[u32 0, u32 0, u64 0, u32 0] 40)).alloc (.cells #[.slice none 0 0] 83)) w.heap.size cs := by
  have := (Blk.new w cs 160).ext (((Ext.refl _).alloc (.cells #[u32 0,u32 0,u64 0,u32 0] 40)).alloc (.cells #[.slice none 0 0] 83))
  rw [hcs] at this; exact this
 have o6 : Blk (((w.alloc (.cells #[i64 t.k, u64 t.n, .slice ba t.b.length bc, .string t.s, .slice la t.l.length lc] 160)).alloc (.cells #[u32 0, u32 0, u64 0, u32 0] 40)).alloc (.cells #[.slice none 0 0] 83)) (w.heap.size + 1) [u32 0, u32 0, u64 0, u32 0] := by
  have := (Blk.new (w.alloc (.cells #[i64 t.k,u64 t.n,.slice ba t.b.length bc,.string t.s,.slice la t.l.length lc] 160)) [u32 0,u32 0,u64 0,u32 0] 40).ext ((Ext.refl _).alloc (.cells #[.slice none 0 0] 83))
  simpa using this
 have o8 : Var (((w.alloc (.cells #[i64 t.k, u64 t.n, .slice ba t.b.length bc, .string t.s, .slice la t.l.length lc] 160)).alloc (.cells #[u32 0, u32 0, u64 0, u32 0] 40)).alloc (.cells #[.slice none 0 0] 83)) (w.heap.size + 1 + 1) (.slice none 0 0) := by
  have := Var.new ((w.alloc (.cells #[i64 t.k,u64 t.n,.slice ba t.b.length bc,.string t.s,.slice la t.l.length lc] 160)).alloc (.cells #[u32 0,u32 0,u64 0,u32 0] 40)) (.slice none 0 0) 83
  simpa using this
 have z1 : (((w.alloc (.cells #[i64 t.k,u64 t.n,.slice ba t.b.length bc,.string t.s,.slice la t.l.length lc] 160)).alloc (.cells #[u32 0,u32 0,u64 0,u32 0] 40)).alloc (.cells #[.slice none 0 0] 83)).heap.size = w.heap.size + 1 + 1 + 1 := by simp
 have hA0 : Acc w (((w.alloc (.cells #[i64 t.k,u64 t.n,.slice ba t.b.length bc,.string t.s,.slice la t.l.length lc] 160)).alloc (.cells #[u32 0,u32 0,u64 0,u32 0] 40)).alloc (.cells #[.slice none 0 0] 83)) (w.heap.size + 1 + 1) (.slice none 0 0) [] := ⟨o8,World.ownsRow_nil _ _ _ _,hE1⟩
 generalize (((w.alloc (.cells #[i64 t.k,u64 t.n,.slice ba t.b.length bc,.string t.s,.slice la t.l.length lc] 160)).alloc (.cells #[u32 0,u32 0,u64 0,u32 0] 40)).alloc (.cells #[.slice none 0 0] 83)) = w1 at *
 subst ecs
 obtain ⟨bl,hbl⟩ : ∃ bl,bl = w.heap.size + 1 + 1 := ⟨_,rfl⟩
 rw [← hbl] at hA0 z1 o8 ⊢
 have lenu : (uintsOf t).length ≤ 1000000 := by unfold numsOf at hn; simp only [List.length_append] at hn; omega
 refine FN.mono (add_c ht hA0 (by omega) (by simpa using (show (uintsOf t).length ≤ 1048576 by omega))) ?_
 rintro _ w2 ⟨⟨u2,rfl⟩,v2,hA2,hM2,hg2⟩
 have p3 := o3.mod hM2 (by rintro (h | ⟨h,-⟩) <;> simp [slN] at *; omega)
 have hlen := fun ty W => hO.l.isLen (P := Tryz.prog) (t := 158) (by simp) ty W
 simp [p3.cell 4 _ rfl,hlen]
 rw [List.nil_append] at hA2
 refine WC_loop (fun k ρ ds w' => ∃ (i : Nat) (v : Value), k = t.l.length - i ∧ i ≤ t.l.length ∧ ρ 1 = .func (.func 255) #[] #[] ∧ ρ 2 = .func (.func 295) #[] #[] ∧ ρ 3 = ptr w.heap.size ∧ ρ 6 = ptr (w.heap.size + 1) ∧ ρ 8 = ptr bl ∧ ρ 9 = .func (.func 310) #[] #[ptr bl] ∧ ρ 22 = .slice la t.l.length lc ∧ ρ 23 = i64 t.l.length ∧ ρ 24 = i64 i ∧ ds = [] ∧
  Acc w w' bl v (uintsOf t ++ (t.l.take i).flatMap numsY) ∧ Mod (fun k => bl ≤ k) w1 w') t.l.length ⟨0,v2,by simp,by simp,by simp,by simp,by simp,by simp,by simp,by simp,by simp,by simp,by simp,rfl,by simpa using hA2,hM2.weaken fun k hk => ?_⟩ ?_
 ·rcases hk with h | ⟨h, -⟩
  ·omega
  ·simp [slN] at h
 rintro k ρ ds w3 ⟨i,v,rfl,hi,e1,e2,e3,e6,e8,e9,e22,e23,e24,rfl,hA,hM⟩
 by_cases hlt : i < t.l.length
 ·have hq := List.getElem?_eq_getElem hlt
  obtain ⟨y,hy⟩ : ∃ y,y = t.l[i] := ⟨_,rfl⟩
  rw [← hy] at hq
  obtain ⟨ba',bc',la',lc',css',hyO,hyA⟩ := itRowO hO.l hO.c hq
  have hyA3 := hyA.ext hA.ext
  have ix := hO.l.index (P := Tryz.prog) (t := 158) (by simp) .i64 i (by omega) (by omega) w3
  simp at ix
  have hsuc := flat_take_succ numsY hq
  have hle := flat_take_le t.l numsY (i + 1)
  have htot : (uintsOf t ++ (t.l.take i).flatMap numsY ++ numsY y).length ≤ 1000000 := by
   unfold numsOf at hn
   rw [List.append_assoc,← hsuc]
   simp only [List.length_append] at hn ⊢
   omega
  have hny : (numsY y).length = (uintsOf y).length + (y.l.flatMap uintsOf).length := by unfold numsY; rw [List.length_append]
  simp [e9,e22,e23,e24,hlt,ix,hyA3.c0,hyA3.c1,hyA3.c2,hyA3.c3,hyA3.c4]
  have hE4 : Ext w3 (w3.alloc (.cells #[i64 y.k,u64 y.n,.slice ba' y.b.length bc',.string y.s,.slice la' y.l.length lc'] 160)) := (Ext.refl _).alloc _
  have o11 := Blk.new w3 [i64 y.k,u64 y.n,.slice ba' y.b.length bc',.string y.s,.slice la' y.l.length lc'] 160
  have hyi := hyO.itC
  generalize (w3.alloc (.cells #[i64 y.k,u64 y.n,.slice ba' y.b.length bc',.string y.s,.slice la' y.l.length lc'] 160)) = w4 at *
  have hl2 : (uintsOf t ++ (t.l.take i).flatMap numsY ++ uintsOf y).length ≤ 1048576 := by
   simp only [List.length_append] at htot ⊢
   omega
  refine FN.mono (add_c hyi (hA.more hE4) (by omega) hl2) ?_
  rintro _ w5 ⟨⟨u5,rfl⟩,v5,hA5,hM5,hg5⟩
  have hrow := hA.row
  have hbl3 := hA.var.lt
  have p11 := o11.mod hM5 (by
   rintro (h | ⟨h, h'⟩)
   ·omega
   ·have := (hrow h).2; omega)
  have hlen' := fun ty W => hyO.l.isLen (P := Tryz.prog) (t := 158) (by simp) ty W
  simp [p11.cell 4 _ rfl,hlen']
  have hM5' : Mod (fun k => bl ≤ k) w1 w5 := (hM.trans hE4.mod).trans (hM5.weaken fun k hk => by
   rcases hk with h | ⟨h, h'⟩
   ·omega
   ·have := (hrow h).1; omega)
  refine WC_loop (fun k ρ ds w' => ∃ (j : Nat) (v : Value), k = y.l.length - j ∧ j ≤ y.l.length ∧ ρ 1 = .func (.func 255) #[] #[] ∧ ρ 2 = .func (.func 295) #[] #[] ∧ ρ 3 = ptr w.heap.size ∧ ρ 6 = ptr (w.heap.size + 1) ∧ ρ 8 = ptr bl ∧ ρ 9 = .func (.func 310) #[] #[ptr bl] ∧ ρ 22 = .slice la t.l.length lc ∧ ρ 23 = i64 t.l.length ∧ ρ 24 = i64 i ∧
   ρ 32 = .slice la' y.l.length lc' ∧ ρ 33 = i64 y.l.length ∧ ρ 34 = i64 j ∧ ds = [] ∧ Acc w w' bl v (uintsOf t ++ (t.l.take i).flatMap numsY ++ (uintsOf y ++ (y.l.take j).flatMap uintsOf)) ∧ Mod (fun k => bl ≤ k) w1 w') y.l.length
   ⟨0,v5,by simp,by simp,by simp [e1],by simp [e2],by simp [e3],by simp [e6],by simp [e8],by simp [e9],by simp [e22],by simp [e23],by simp [e24],by simp,by simp,by simp,rfl,by simpa using hA5,hM5'⟩ ?_
  rintro k ρ ds w6 ⟨j,v6,rfl,hj,f1,f2,f3,f6,f8,f9,f22,f23,f24,f32,f33,f34,rfl,hA6,hM6⟩
  by_cases hjt : j < y.l.length
  ·have hqz := List.getElem?_eq_getElem hjt
   obtain ⟨x,hx⟩ : ∃ x,x = y.l[j] := ⟨_,rfl⟩
   rw [← hx] at hqz
   obtain ⟨ba2,bc2,la2,lc2,css2,hxO,hxA⟩ := itRowO hyO.l hyO.c hqz
   have hxA6 := hxA.ext hA6.ext
   have ix2 := hyO.l.index (P := Tryz.prog) (t := 158) (by simp) .i64 j (by omega) (by omega) w6
   simp at ix2
   have hsuc2 := flat_take_succ uintsOf hqz
   have hle2 := flat_take_le y.l uintsOf (j + 1)
   have hl6 : (uintsOf t ++ (t.l.take i).flatMap numsY ++ (uintsOf y ++ (y.l.take j).flatMap uintsOf) ++ uintsOf x).length ≤ 1048576 := by
    rw [List.append_assoc,List.append_assoc (uintsOf y),← hsuc2]
    simp only [List.length_append] at htot ⊢
    omega
   simp [f9,f32,f33,f34,hjt,ix2,hxA6.c0,hxA6.c1,hxA6.c2,hxA6.c3,hxA6.c4]
   have hE7 : Ext w6 (w6.alloc (.cells #[i64 x.k,u64 x.n,.slice ba2 x.b.length bc2,.string x.s,.slice la2 x.l.length lc2] 160)) := (Ext.refl _).alloc _
   have hxi := hxO.itC
   generalize (w6.alloc (.cells #[i64 x.k,u64 x.n,.slice ba2 x.b.length bc2,.string x.s,.slice la2 x.l.length lc2] 160)) = w7 at *
   refine FN.mono (add_c hxi (hA6.more hE7) (by omega) hl6) ?_
   rintro _ w8 ⟨⟨u8',rfl⟩,v8,hA8,hM8,hg8⟩
   have hrow6 := hA6.row
   have hw1 : IntKind.i64.wrap ((j : Int) + 1) = j + 1 := wrap64 _ (by omega) (by have := hyO.ll; omega)
   simp [f1,f2,f3,f6,f8,f9,f22,f23,f24,f32,f33,f34,hw1]
   have hA8' : Acc w w8 bl v8 (uintsOf t ++ ((t.l.take i).flatMap numsY ++ (uintsOf y ++ (y.l.take (j + 1)).flatMap uintsOf))) := by
    rw [hsuc2]
    simpa [List.append_assoc] using hA8
   exact ⟨y.l.length - (j + 1), by omega, j + 1, rfl, by omega, by push_cast; rfl, ⟨v8, hA8'⟩, (hM6.trans hE7.mod).trans (hM8.weaken fun k hk => by
    rcases hk with h | ⟨h, h'⟩
    ·omega
    ·have := (hrow6 h).1; omega)⟩
  ·obtain rfl : j = y.l.length := by omega
   have hw1 : IntKind.i64.wrap ((i : Int) + 1) = i + 1 := wrap64 _ (by omega) (by have := hO.ll; omega)
   simp [f1,f2,f3,f6,f8,f9,f22,f23,f24,f33,f34,hw1]
   rw [List.take_length] at hA6
   have hA6' : Acc w w6 bl v6 (uintsOf t ++ (t.l.take (i + 1)).flatMap numsY) := by
    rw [hsuc]
    unfold numsY at hA6 ⊢
    simpa [List.append_assoc] using hA6
   exact ⟨t.l.length - (i + 1),by omega,i + 1,rfl,by omega,by push_cast; rfl,⟨v6,hA6'⟩,hM6⟩
 ·obtain rfl : i = t.l.length := by omega
  rw [List.take_length] at hA
  have hA' : Acc w w3 bl v (numsOf t) := hA
  obtain ⟨⟨inf,z,hi1,hi2,hi3,hi4,hi5⟩,-⟩ := elOk_inv (show elOk (Tryz.prog.info? 24) 1 = true by kernel_rfl)
  have hzz : ((Tryz.prog.info? 24).bind fun i => i.zero) = some (u64 0) := by kernel_rfl
  have hbb : ((Tryz.prog.info? 24).map fun i => i.bytes) = some 8 := by kernel_rfl
  rw [hi1] at hzz hbb
  simp only [Option.bind_some,Option.map_some,Option.some.injEq] at hzz hbb
  rw [hi2] at hzz
  obtain rfl : z = u64 0 := Option.some.inj hzz
  have hblw := hA'.var.lt
  obtain ⟨v9,w9,hr9,ho9,hM9,hg9⟩ := append_zeros (P := Tryz.prog) (t := 83) (tn := 3) (ty := 83) (e := 24) (kn := .i64) (kq := .i64) (z := u64 0) (zs := [u64 0,u64 0,u64 0,u64 0,u64 0]) (k := 5) (by simp) (by simp) hi1 hi2 rfl hi3 (by omega) hA'.own (by omega) (by kernel_rfl) (by intro u hu; simp at hu; subst hu; rfl) (by omega) (by omega)
  have hrow := hA'.row
  have hM9' : Mod (fun k => bl ≤ k) w1 w9 := hM.trans (hM9.weaken fun k hk => by have := hrow hk.1; omega)
  have hE19 : Ext w w9 := ((hE1.mod (S := fun k => w.heap.size ≤ k)).trans (hM9'.weaken fun k hk => by omega)).ext fun _ h => h
  have hS9 : Sl w9 1 v9 (numsOf t ++ [0, 0, 0, 0, 0]).length ((numsOf t ++ [0, 0, 0, 0, 0]).map u64) := by
   have := sl_of_own ho9
   simpa using this
  simp at hr9
  simp [e2,e8,e23,e24,hA'.var.cell,hr9]
  refine FN.mono (nameOf1_c hS9 (by simp) (by simp; omega)) ?_
  rintro _ w10 ⟨rfl,hE10⟩
  rw [show namOfL (numsOf t ++ [0,0,0,0,0]) = namN t from rfl]
  have hNok : NamOk (namN t) := namOfL_ok _
  obtain ⟨N,hN⟩ : ∃ N,N = namN t := ⟨_,rfl⟩
  have hF : namF t = (decide (nameE N = 0) && decide (t = nameI N)) := by rw [hN]; rfl
  rw [← hN] at hNok ⊢
  rw [hF]
  have q3 := (o3.mod hM9' (by omega)).ext hE10
  have q6 := (o6.mod hM9' (by omega)).ext hE10
  have hX10 := hE19.trans hE10
  have b14 := Blk.new w10 [u32 N.nn,u32 N.ns,u64 N.nt,u32 N.nq] 40
  have hE11 : Ext w10 (w10.alloc (.cells #[u32 N.nn,u32 N.ns,u64 N.nt,u32 N.nq] 40)) := (Ext.refl _).alloc _
  simp [e1]
  generalize (w10.alloc (.cells #[u32 N.nn,u32 N.ns,u64 N.nt,u32 N.nq] 40)) = w11 at *
  refine FN.mono (nameItem_c hNok w11) ?_
  rintro _ w12 ⟨cs',rfl,hi12,⟨k',x',bv',s',lv',rfl,⟨a1,m1,c1,rfl⟩,⟨a2,m2,c2,rfl⟩⟩,hE12⟩
  have b15 := Blk.new w12 [i64 k',u64 x',.slice a1 m1 c1,.string s',.slice a2 m2 c2] 160
  have hE13 : Ext w12 (w12.alloc (.cells #[i64 k',u64 x',.slice a1 m1 c1,.string s',.slice a2 m2 c2] 160)) := (Ext.refl _).alloc _
  simp
  generalize (w12.alloc (.cells #[i64 k',u64 x',.slice a1 m1 c1,.string s',.slice a2 m2 c2] 160)) = w13 at *
  have hX13 := hE11.trans (hE12.trans hE13)
  have q3' := q3.ext hX13
  have q6' := q6.ext hX13
  have b14' := b14.ext (hE12.trans hE13)
  have hXw := hX10.trans hX13
  have z0 : w.heap.size ≤ w.heap.size + 1 := by omega
  have hti := ItP.ext ht (hXw)
  by_cases h0 : nameE N = 0
  ·have hb : (!nameE N != 0) = true := by simp [h0]
   have hb0 : (nameE N != 0) = false := by simp [h0]
   rw [if_pos h0] at hi12
   simp [h0,e3,q3'.cell 0 _ rfl,q3'.cell 1 _ rfl,q3'.cell 2 _ rfl,q3'.cell 3 _ rfl,q3'.cell 4 _ rfl,b15.cell 0 _ rfl,b15.cell 1 _ rfl,b15.cell 2 _ rfl,b15.cell 3 _ rfl,b15.cell 4 _ rfl]
   have hsm := same_c hti (ItP.any (ItP.ext hi12 hE13))
   refine FN.mono (hsm) ?_
   rintro _ w14 ⟨rfl,hE14⟩
   have q6'' := q6'.ext hE14
   have b14'' := b14'.ext hE14
   have hX14 := hXw.trans hE14
   by_cases ht' : t = nameI N
   ·have hd := decide_eq_true ht'
    simp [hd,e6,q6''.cell 0 _ rfl,q6''.cell 1 _ rfl,q6''.cell 2 _ rfl,q6''.cell 3 _ rfl,q6''.thaw,b14''.cell 0 _ rfl,b14''.cell 1 _ rfl,b14''.cell 2 _ rfl,b14''.cell 3 _ rfl,cell_setCell]
    exact ⟨⟨h0,ht'⟩,(((hX14.setCell _ _ z0).setCell _ _ z0).setCell _ _ z0).setCell _ _ z0⟩
   ·have hd := decide_eq_false ht'
    simp [hd,e6,q6''.cell 0 _ rfl,q6''.cell 1 _ rfl,q6''.cell 2 _ rfl,q6''.cell 3 _ rfl,q6''.thaw,cell_setCell]
    rw [if_neg (fun e => ht' e.2)]
    exact ⟨rfl,(((hX14.setCell _ _ z0).setCell _ _ z0).setCell _ _ z0).setCell _ _ z0⟩
  ·have hb : (!nameE N != 0) = false := by simp [h0]
   have hb0 : (nameE N != 0) = true := by simp [h0]
   have hif : ¬ (nameE N = 0 ∧ t = nameI N) := fun e => h0 e.1
   rw [if_neg hif]
   simp [hb0,e6,q6'.cell 0 _ rfl,q6'.cell 1 _ rfl,q6'.cell 2 _ rfl,q6'.cell 3 _ rfl,q6'.thaw,cell_setCell]
   exact ⟨by simp [nam0],(((hXw.setCell _ _ z0).setCell _ _ z0).setCell _ _ z0).setCell _ _ z0⟩
theorem nameOf_c {w : World} {t : It} {cs : List Value} (ht : ItC w t cs) (hn : (numsOf t).length ≤ 1000000) : FN Tryz.prog 258 [.agg cs.toArray] w fun e w' => e = .returned (if namF t then .tuple #[namV (namN t), i64 0] else .tuple #[namV nam0, i64 130]) ∧ Ext w w' := by
 obtain ⟨ba,bc,la,lc,css,hO⟩ := itO ht
 have ecs := hO.cs
 have hcs : cs.toArray = #[i64 t.k,u64 t.n,.slice ba t.b.length bc,.string t.s,.slice la t.l.length lc] := by rw [ecs]
 rw [hcs]
 refine FN_enter Tryz.func258 rfl rfl (by kernel_rfl) ?_
 simp
 have hE1 : Ext w ((w.alloc (.cells #[i64 t.k,u64 t.n,.slice ba t.b.length bc,.string t.s,.slice la t.l.length lc] 160)).alloc (.cells #[u32 0,u32 0,u64 0,u32 0] 40)) := ((Ext.refl _).alloc _).alloc _
 have o2 : Blk ((w.alloc (.cells #[i64 t.k, u64 t.n, .slice ba t.b.length bc, .string t.s, .slice la t.l.length lc] 160)).alloc (.cells #[u32 0, u32 0, u64 0, u32 0] 40)) (w.heap.size + 1) [u32 0, u32 0, u64 0, u32 0] := by
  have := Blk.new (w.alloc (.cells #[i64 t.k,u64 t.n,.slice ba t.b.length bc,.string t.s,.slice la t.l.length lc] 160)) [u32 0,u32 0,u64 0,u32 0] 40
  simpa using this
 generalize ((w.alloc (.cells #[i64 t.k,u64 t.n,.slice ba t.b.length bc,.string t.s,.slice la t.l.length lc] 160)).alloc (.cells #[u32 0,u32 0,u64 0,u32 0] 40)) = w1 at *
 have hr := nread_c (ItP.ext ht hE1) hn
 rw [hcs] at hr
 refine FN.mono (hr) ?_
 rintro _ w2 ⟨rfl,hE2⟩
 have q6 := o2.ext hE2
 have hX := hE1.trans hE2
 have z0 : w.heap.size ≤ w.heap.size + 1 := by omega
 cases hf : namF t with
 | true =>
  simp [q6.cell 0 _ rfl,q6.cell 1 _ rfl,q6.cell 2 _ rfl,q6.cell 3 _ rfl,q6.thaw,cell_setCell]
  exact (((hX.setCell _ _ z0).setCell _ _ z0).setCell _ _ z0).setCell _ _ z0
 | false =>
  simp [q6.cell 0 _ rfl,q6.cell 1 _ rfl,q6.cell 2 _ rfl,q6.cell 3 _ rfl,q6.thaw,cell_setCell]
  exact (((hX.setCell _ _ z0).setCell _ _ z0).setCell _ _ z0).setCell _ _ z0
end Go.Proofs