/-
  Contracts of the functions that the law reaches, step by step.
-/
import Derived.Test.YthamfghcfjhifaaGreatDoorAdA
import Derived.Test.YthamfghcfjhifaaGreatDoorAmO
namespace Go.Proofs
open Pk
set_option maxRecDepth 10000
theorem five_mod (w : World) (c : Nat) (a0 a1 a2 a3 a4 : Value) : Mod (fun k => k = c) w (((((w.setCell ⟨c, 0, none⟩ a0).setCell ⟨c, 1, none⟩ a1).setCell ⟨c, 2, none⟩ a2).setCell ⟨c, 3, none⟩ a3).setCell ⟨c, 4, none⟩ a4) :=
  (((((Mod.refl _ _).setC _ _).setC _ _).setC _ _).setC _ _).setC _ _
theorem five_ext {w0 w : World} (h : Ext w0 w) {c : Nat} (hc : w0.heap.size ≤ c) (a0 a1 a2 a3 a4 : Value) : Ext w0 (((((w.setCell ⟨c, 0, none⟩ a0).setCell ⟨c, 1, none⟩ a1).setCell ⟨c, 2, none⟩ a2).setCell ⟨c, 3, none⟩ a3).setCell ⟨c, 4, none⟩ a4) :=
  ((((h.setCell _ _ hc).setCell _ _ hc).setCell _ _ hc).setCell _ _ hc).setCell _ _ hc
/-! ### Items that are made -/
def uintI (n : Int) : It := .mk 1 n [] ⟨#[]⟩ []
def listI (l : List It) : It := .mk 4 0 [] ⟨#[]⟩ l
theorem leaf_it {Pd : Nat → Prop} {W : World} (k n : Int) : ItP Pd W (.mk k n [] ⟨#[]⟩ []) (leafC k n) :=
  itP_mk.2 ⟨_, _, [], rfl, SlB.nil W 1 0, SlB.nil W 5 0, fun h => (h rfl).elim, fun h => (h rfl).elim, itPs_nil, by simp, by simp⟩
theorem list_it {Pd : Nat → Prop} {W : World} {l : List It} {css : List (List Value)} {lv : Value} (h : SlB W 5 lv l.length css.flatten) (hc : ItPs Pd W l css) (hp : l ≠ [] → Pd (slB lv)) (hl : l.length ≤ 9223372036854775807) :
    ItP Pd W (listI l) [i64 4, u64 0, .slice none 0 0, .string ⟨#[]⟩, lv] :=
  itP_mk.2 ⟨_, _, css, rfl, SlB.nil W 1 0, h, fun h => (h rfl).elim, hp, hc, by simp, hl⟩
theorem made_it {Pd : Nat → Prop} {w : World} {l : List It} {css : List (List Value)} (hc : ItPs Pd w l css) (n : Nat) (hn : l.length = n) (hf : css.flatten.length = n * 5) (hp : Pd w.heap.size) (hn' : n ≤ 1000) (ty : TypeId) :
    ItP Pd (w.alloc (.cells css.flatten.toArray ty)) (listI l) [i64 4, u64 0, .slice none 0 0, .string ⟨#[]⟩, .slice (some ⟨w.heap.size, 0, none⟩) n n] := by
  subst hn
  exact list_it (Sl.made w css.flatten ty 5 l.length hf).toB (hc.ext ((Ext.refl _).alloc _)) (fun _ => hp) (by omega)
theorem item64_c (x : Int) (w : World) : FN Tryz.prog 139 [u64 x] w fun e w' => e = .returned (leafV 1 x) ∧ Ext w w' := by
  refine FN_enter Tryz.func139 rfl rfl (by kernel_rfl) ?_
  simp
  exact (Ext.refl w).alloc _
theorem item32_c (x : Int) (hx : 0 ≤ x ∧ x ≤ 4294967295) (w : World) : FN Tryz.prog 140 [u32 x] w fun e w' => e = .returned (leafV 1 x) ∧ Ext w w' := by
  refine FN_enter Tryz.func140 rfl rfl (by kernel_rfl) ?_
  have q1 : IntKind.u64.wrap x = x := by simp [IntKind.wrap, IntKind.signed, IntKind.bits]; omega
  simp [q1]
  exact (Ext.refl w).alloc _
theorem itemi_c (x : Int) (hx : 0 ≤ x ∧ x ≤ 4294967295) (w : World) : FN Tryz.prog 166 [i64 x] w fun e w' => e = .returned (leafV 1 x) ∧ Ext w w' := by
  refine FN_enter Tryz.func166 rfl rfl (by kernel_rfl) ?_
  have q1 : IntKind.u64.wrap x = x := by simp [IntKind.wrap, IntKind.signed, IntKind.bits]; omega
  simp [q1]
  exact (Ext.refl w).alloc _
theorem nlist_c (a : Option Addr) (n c : Nat) (w : World) : FN Tryz.prog 137 [.slice a n c] w fun e w' => e = .returned (.agg #[i64 4, u64 0, .slice none 0 0, .string ⟨#[]⟩, .slice a n c]) ∧ Ext w w' := by
  refine FN_enter Tryz.func137 rfl rfl (by kernel_rfl) ?_
  simp
  exact (Ext.refl w).alloc _
/-! ### Names -/
structure Nam where
  nn : Int
  ns : Int
  nt : Int
  nq : Int
structure NamOk (n : Nam) : Prop where
  nn : 0 ≤ n.nn ∧ n.nn ≤ 4294967295
  ns : 0 ≤ n.ns ∧ n.ns ≤ 4294967295
  nq : 0 ≤ n.nq ∧ n.nq ≤ 4294967295
abbrev namC (n : Nam) : List Value := [u32 n.nn, u32 n.ns, u64 n.nt, u32 n.nq]
abbrev namV (n : Nam) : Value := .agg #[u32 n.nn, u32 n.ns, u64 n.nt, u32 n.nq]
def nameE (n : Nam) : Int := if n.nn = 0 then 2 else if 4611686018427387903 < n.nt then 2 else 0
def endI (n s : Int) : It := if n = 0 then listI [uintI 1, uintI 0] else listI [uintI 2, listI [uintI n, uintI s]]
def nameI (n : Nam) : It := listI [endI n.nn n.ns, uintI n.nt, uintI n.nq]
theorem checkName_c (n : Nam) (w : World) : FN Tryz.prog 108 [namV n] w fun e w' => e = .returned (i64 (nameE n)) ∧ Ext w w' := by
  refine FN_enter Tryz.func108 rfl rfl (by kernel_rfl) ?_
  unfold nameE
  by_cases h1 : n.nn = 0
  · simp [h1]
    exact (Ext.refl w).alloc _
  · have hb : (n.nn == 0) = false := by simp [h1]
    by_cases h2 : 4611686018427387903 < n.nt
    · simp [h1, h2, hb]
      exact (Ext.refl w).alloc _
    · simp [h1, h2, hb]
      exact (Ext.refl w).alloc _
set_option maxHeartbeats 1000000 in
theorem itemOf_c {n s : Int} (hn : 0 ≤ n ∧ n ≤ 4294967295) (hs : 0 ≤ s ∧ s ≤ 4294967295) (w : World) : FN Tryz.prog 138 [.agg #[u32 n, u32 s]] w fun e w' => ∃ v, e = .returned (.agg #[i64 4, u64 0, .slice none 0 0, .string ⟨#[]⟩, v]) ∧ (∃ a m c, v = .slice a m c) ∧ ItP (fun k => w.heap.size ≤ k) w' (endI n s) [i64 4, u64 0, .slice none 0 0, .string ⟨#[]⟩, v] ∧ Ext w w' := by
  refine FN_enter Tryz.func138 rfl rfl (by kernel_rfl) ?_
  simp
  have hE1 : Ext w ((w.alloc (.cells #[u32 n, u32 s] 25)).alloc (.cells #[i64 0, u64 0, .slice none 0 0, .string ⟨#[]⟩, .slice none 0 0] 51)) := ((Ext.refl _).alloc _).alloc _
  have o1 : Blk ((w.alloc (.cells #[u32 n, u32 s] 25)).alloc (.cells #[i64 0, u64 0, .slice none 0 0, .string ⟨#[]⟩, .slice none 0 0] 51)) w.heap.size [u32 n, u32 s] := (Blk.new w _ _).ext ((Ext.refl _).alloc _)
  have o2 : Blk ((w.alloc (.cells #[u32 n, u32 s] 25)).alloc (.cells #[i64 0, u64 0, .slice none 0 0, .string ⟨#[]⟩, .slice none 0 0] 51)) (w.heap.size + 1) (leafC 0 0) := by
    have := Blk.new (w.alloc (.cells #[u32 n, u32 s] 25)) (leafC 0 0) 51
    simpa using this
  have z1 : ((w.alloc (.cells #[u32 n, u32 s] 25)).alloc (.cells #[i64 0, u64 0, .slice none 0 0, .string ⟨#[]⟩, .slice none 0 0] 51)).heap.size = w.heap.size + 1 + 1 := by simp
  generalize ((w.alloc (.cells #[u32 n, u32 s] 25)).alloc (.cells #[i64 0, u64 0, .slice none 0 0, .string ⟨#[]⟩, .slice none 0 0] 51)) = w1 at *
  have fin : ∀ (w5 : World) (t : It) (v : Value), Ext w1 w5 → ItP (fun k => w1.heap.size ≤ k) w5 t [i64 4, u64 0, .slice none 0 0, .string ⟨#[]⟩, v] → ItP (fun k => w.heap.size ≤ k) (((((w5.setCell ⟨(w.heap.size + 1), 0, none⟩ (i64 4)).setCell ⟨(w.heap.size + 1), 1, none⟩ (u64 0)).setCell ⟨(w.heap.size + 1), 2, none⟩ (.slice none 0 0)).setCell ⟨(w.heap.size + 1), 3, none⟩ (.string ⟨#[]⟩)).setCell ⟨(w.heap.size + 1), 4, none⟩ v) t [i64 4, u64 0, .slice none 0 0, .string ⟨#[]⟩, v] ∧ Ext w (((((w5.setCell ⟨(w.heap.size + 1), 0, none⟩ (i64 4)).setCell ⟨(w.heap.size + 1), 1, none⟩ (u64 0)).setCell ⟨(w.heap.size + 1), 2, none⟩ (.slice none 0 0)).setCell ⟨(w.heap.size + 1), 3, none⟩ (.string ⟨#[]⟩)).setCell ⟨(w.heap.size + 1), 4, none⟩ v) := by
    intro w5 t v h5 hi
    exact ⟨hi.go (five_mod w5 (w.heap.size + 1) _ _ _ _ _) (fun k _ hk => ⟨by omega, by omega⟩), five_ext (hE1.trans h5) (by omega) _ _ _ _ _⟩
  by_cases h0 : n = 0
  · have hb : (n == 0) = true := by simp [h0]
    have e0 : endI n s = listI [uintI 1, uintI 0] := by unfold endI; rw [if_pos h0]
    rw [e0]
    simp [hb]
    refine FN.mono (itemi_c 1 (by omega) w1) ?_
    rintro _ w2 ⟨rfl, hE2⟩
    simp
    refine FN.mono (itemi_c 0 (by omega) w2) ?_
    rintro _ w3 ⟨rfl, hE3⟩
    simp
    have z3 := (hE2.trans hE3).size
    have hm : ItP (fun k => w1.heap.size ≤ k) (w3.alloc (.cells #[i64 1, u64 1, .slice none 0 0, .string ⟨#[]⟩, .slice none 0 0, i64 1, u64 0, .slice none 0 0, .string ⟨#[]⟩, .slice none 0 0] 51)) (listI [uintI 1, uintI 0]) [i64 4, u64 0, .slice none 0 0, .string ⟨#[]⟩, .slice (some ⟨w3.heap.size, 0, none⟩) 2 2] :=
      made_it (css := [leafC 1 1, leafC 1 0]) (((itPs_nil).cons (leaf_it 1 0)).cons (leaf_it 1 1)) 2 rfl rfl z3 (by omega) 51
    have hE4 := (hE2.trans hE3).trans ((Ext.refl w3).alloc (.cells #[i64 1, u64 1, .slice none 0 0, .string ⟨#[]⟩, .slice none 0 0, i64 1, u64 0, .slice none 0 0, .string ⟨#[]⟩, .slice none 0 0] 51))
    generalize (w3.alloc (.cells #[i64 1, u64 1, .slice none 0 0, .string ⟨#[]⟩, .slice none 0 0, i64 1, u64 0, .slice none 0 0, .string ⟨#[]⟩, .slice none 0 0] 51)) = w4 at *
    refine FN.mono (nlist_c _ _ _ w4) ?_
    rintro _ w5 ⟨rfl, hE5⟩
    have o5 := (o2.ext hE4).ext hE5
    simp [o5.cell 0 _ rfl, o5.cell 1 _ rfl, o5.cell 2 _ rfl, o5.cell 3 _ rfl, o5.cell 4 _ rfl, o5.thaw, cell_setCell]
    exact fin w5 _ _ (hE4.trans hE5) (hm.ext hE5)
  · have hb : (n == 0) = false := by simp [h0]
    have e0 : endI n s = listI [uintI 2, listI [uintI n, uintI s]] := by unfold endI; rw [if_neg h0]
    rw [e0]
    simp [hb]
    refine WC_drawC 6 (.F 1 <| .F 2 <| .F 4 <| .F 5 <| .C 0 <| .C 3 <| .Z) (fun _ => false) rfl (by kernel_rfl) fun W hW => ?_
    have hWE : Ext w1 W := hW ▸ Ext.drew _
    have p1 := o1.ext hWE
    simp [p1.cell 0 _ rfl, p1.cell 1 _ rfl]
    refine FN.mono (itemi_c 2 (by omega) W) ?_
    rintro _ w2 ⟨rfl, hE2⟩
    simp
    refine KR_ext hE2 ?_
    simp
    refine FN.mono (item32_c n hn w2) ?_
    rintro _ w3 ⟨rfl, hE3⟩
    simp
    refine KR_ext hE3 ?_
    simp
    refine FN.mono (item32_c s hs w3) ?_
    rintro _ w4 ⟨rfl, hE4⟩
    simp
    have hX4 := (hWE.trans hE2).trans (hE3.trans hE4)
    have z4 := hX4.size
    have hm : ItP (fun k => w1.heap.size ≤ k) (w4.alloc (.cells #[i64 1, u64 n, .slice none 0 0, .string ⟨#[]⟩, .slice none 0 0, i64 1, u64 s, .slice none 0 0, .string ⟨#[]⟩, .slice none 0 0] 51)) (listI [uintI n, uintI s]) [i64 4, u64 0, .slice none 0 0, .string ⟨#[]⟩, .slice (some ⟨w4.heap.size, 0, none⟩) 2 2] :=
      made_it (css := [leafC 1 n, leafC 1 s]) (((itPs_nil).cons (leaf_it 1 s)).cons (leaf_it 1 n)) 2 rfl rfl z4 (by omega) 51
    have hE5 := hX4.trans ((Ext.refl w4).alloc (.cells #[i64 1, u64 n, .slice none 0 0, .string ⟨#[]⟩, .slice none 0 0, i64 1, u64 s, .slice none 0 0, .string ⟨#[]⟩, .slice none 0 0] 51))
    generalize (w4.alloc (.cells #[i64 1, u64 n, .slice none 0 0, .string ⟨#[]⟩, .slice none 0 0, i64 1, u64 s, .slice none 0 0, .string ⟨#[]⟩, .slice none 0 0] 51)) = w5 at *
    refine FN.mono (nlist_c _ _ _ w5) ?_
    rintro _ w6 ⟨rfl, hE6⟩
    have z6 := hE6.size
    have z5 := hE5.size
    have hm2 : ItP (fun k => w1.heap.size ≤ k) (w6.alloc (.cells #[i64 1, u64 2, .slice none 0 0, .string ⟨#[]⟩, .slice none 0 0, i64 4, u64 0, .slice none 0 0, .string ⟨#[]⟩, .slice (some ⟨w4.heap.size, 0, none⟩) 2 2] 51)) (listI [uintI 2, listI [uintI n, uintI s]]) [i64 4, u64 0, .slice none 0 0, .string ⟨#[]⟩, .slice (some ⟨w6.heap.size, 0, none⟩) 2 2] :=
      made_it (css := [leafC 1 2, [i64 4, u64 0, .slice none 0 0, .string ⟨#[]⟩, .slice (some ⟨w4.heap.size, 0, none⟩) 2 2]]) (((itPs_nil).cons (hm.ext hE6)).cons (leaf_it 1 2)) 2 rfl rfl (by omega) (by omega) 51
    have hE7 := (hE5.trans hE6).trans ((Ext.refl w6).alloc (.cells #[i64 1, u64 2, .slice none 0 0, .string ⟨#[]⟩, .slice none 0 0, i64 4, u64 0, .slice none 0 0, .string ⟨#[]⟩, .slice (some ⟨w4.heap.size, 0, none⟩) 2 2] 51))
    simp
    generalize (w6.alloc (.cells #[i64 1, u64 2, .slice none 0 0, .string ⟨#[]⟩, .slice none 0 0, i64 4, u64 0, .slice none 0 0, .string ⟨#[]⟩, .slice (some ⟨w4.heap.size, 0, none⟩) 2 2] 51)) = w7 at *
    refine FN.mono (nlist_c _ _ _ w7) ?_
    rintro _ w8 ⟨rfl, hE8⟩
    have o8 := (o2.ext hE7).ext hE8
    simp [o8.cell 0 _ rfl, o8.cell 1 _ rfl, o8.cell 2 _ rfl, o8.cell 3 _ rfl, o8.cell 4 _ rfl, o8.thaw, cell_setCell]
    exact fin w8 _ _ (hE7.trans hE8) (hm2.ext hE8)
set_option maxHeartbeats 1000000 in
theorem nitem1_c {n : Nam} (h : NamOk n) (w : World) : FN Tryz.prog 136 [namV n] w fun e w' => ∃ v, e = .returned (.agg #[i64 4, u64 0, .slice none 0 0, .string ⟨#[]⟩, v]) ∧ (∃ a m c, v = .slice a m c) ∧ ItP (fun k => w.heap.size ≤ k) w' (nameI n) [i64 4, u64 0, .slice none 0 0, .string ⟨#[]⟩, v] ∧ Ext w w' := by
  refine FN_enter Tryz.func136 rfl rfl (by kernel_rfl) ?_
  simp
  have hE1 : Ext w ((w.alloc (.cells #[u32 n.nn, u32 n.ns, u64 n.nt, u32 n.nq] 28)).alloc (.cells #[i64 0, u64 0, .slice none 0 0, .string ⟨#[]⟩, .slice none 0 0] 51)) := ((Ext.refl _).alloc _).alloc _
  have o1 : Blk ((w.alloc (.cells #[u32 n.nn, u32 n.ns, u64 n.nt, u32 n.nq] 28)).alloc (.cells #[i64 0, u64 0, .slice none 0 0, .string ⟨#[]⟩, .slice none 0 0] 51)) w.heap.size (namC n) := (Blk.new w _ _).ext ((Ext.refl _).alloc _)
  have o2 : Blk ((w.alloc (.cells #[u32 n.nn, u32 n.ns, u64 n.nt, u32 n.nq] 28)).alloc (.cells #[i64 0, u64 0, .slice none 0 0, .string ⟨#[]⟩, .slice none 0 0] 51)) (w.heap.size + 1) (leafC 0 0) := by
    have := Blk.new (w.alloc (.cells #[u32 n.nn, u32 n.ns, u64 n.nt, u32 n.nq] 28)) (leafC 0 0) 51
    simpa using this
  have z1 : ((w.alloc (.cells #[u32 n.nn, u32 n.ns, u64 n.nt, u32 n.nq] 28)).alloc (.cells #[i64 0, u64 0, .slice none 0 0, .string ⟨#[]⟩, .slice none 0 0] 51)).heap.size = w.heap.size + 1 + 1 := by simp
  generalize ((w.alloc (.cells #[u32 n.nn, u32 n.ns, u64 n.nt, u32 n.nq] 28)).alloc (.cells #[i64 0, u64 0, .slice none 0 0, .string ⟨#[]⟩, .slice none 0 0] 51)) = w1 at *
  have fin : ∀ (w5 : World) (t : It) (v : Value), Ext w1 w5 → ItP (fun k => w1.heap.size ≤ k) w5 t [i64 4, u64 0, .slice none 0 0, .string ⟨#[]⟩, v] → ItP (fun k => w.heap.size ≤ k) (((((w5.setCell ⟨(w.heap.size + 1), 0, none⟩ (i64 4)).setCell ⟨(w.heap.size + 1), 1, none⟩ (u64 0)).setCell ⟨(w.heap.size + 1), 2, none⟩ (.slice none 0 0)).setCell ⟨(w.heap.size + 1), 3, none⟩ (.string ⟨#[]⟩)).setCell ⟨(w.heap.size + 1), 4, none⟩ v) t [i64 4, u64 0, .slice none 0 0, .string ⟨#[]⟩, v] ∧ Ext w (((((w5.setCell ⟨(w.heap.size + 1), 0, none⟩ (i64 4)).setCell ⟨(w.heap.size + 1), 1, none⟩ (u64 0)).setCell ⟨(w.heap.size + 1), 2, none⟩ (.slice none 0 0)).setCell ⟨(w.heap.size + 1), 3, none⟩ (.string ⟨#[]⟩)).setCell ⟨(w.heap.size + 1), 4, none⟩ v) := by
    intro w5 t v h5 hi
    exact ⟨hi.go (five_mod w5 (w.heap.size + 1) _ _ _ _ _) (fun k _ hk => ⟨by omega, by omega⟩), five_ext (hE1.trans h5) (by omega) _ _ _ _ _⟩
  refine WC_drawC 8 (.F 0 <| .F 1 <| .F 3 <| .F 4 <| .F 6 <| .F 7 <| .C 2 <| .C 5 <| .Z) (fun _ => false) rfl (by kernel_rfl) fun W hW => ?_
  have hWE : Ext w1 W := hW ▸ Ext.drew _
  have p1 := o1.ext hWE
  simp [p1.cell 0 _ rfl, p1.cell 1 _ rfl, p1.cell 2 _ rfl, p1.cell 3 _ rfl]
  refine FN.mono (itemOf_c h.nn h.ns W) ?_
  rintro _ w2 ⟨v2, rfl, ⟨a2, m2, c2, rfl⟩, hi2, hE2⟩
  simp
  refine KR_ext hE2 ?_
  simp
  refine FN.mono (item64_c n.nt w2) ?_
  rintro _ w3 ⟨rfl, hE3⟩
  simp
  refine KR_ext hE3 ?_
  simp
  refine FN.mono (item32_c n.nq h.nq w3) ?_
  rintro _ w4 ⟨rfl, hE4⟩
  simp
  have hX2 := hWE.trans hE2
  have hX4 := hX2.trans (hE3.trans hE4)
  have z4 := hX4.size
  have zW := hWE.size
  have hi4 : ItP (fun k => w1.heap.size ≤ k) w4 (endI n.nn n.ns) [i64 4, u64 0, .slice none 0 0, .string ⟨#[]⟩, .slice a2 m2 c2] := hi2.go ((hE3.trans hE4).mod (S := fun _ => False)) fun k _ hk => ⟨by omega, _root_.id⟩
  have hm : ItP (fun k => w1.heap.size ≤ k) (w4.alloc (.cells #[i64 4, u64 0, .slice none 0 0, .string ⟨#[]⟩, .slice a2 m2 c2, i64 1, u64 n.nt, .slice none 0 0, .string ⟨#[]⟩, .slice none 0 0, i64 1, u64 n.nq, .slice none 0 0, .string ⟨#[]⟩, .slice none 0 0] 51)) (nameI n) [i64 4, u64 0, .slice none 0 0, .string ⟨#[]⟩, .slice (some ⟨w4.heap.size, 0, none⟩) 3 3] :=
    made_it (css := [[i64 4, u64 0, .slice none 0 0, .string ⟨#[]⟩, .slice a2 m2 c2], leafC 1 n.nt, leafC 1 n.nq]) ((((itPs_nil).cons (leaf_it 1 n.nq)).cons (leaf_it 1 n.nt)).cons hi4) 3 rfl rfl z4 (by omega) 51
  have hE5 := hX4.trans ((Ext.refl w4).alloc (.cells #[i64 4, u64 0, .slice none 0 0, .string ⟨#[]⟩, .slice a2 m2 c2, i64 1, u64 n.nt, .slice none 0 0, .string ⟨#[]⟩, .slice none 0 0, i64 1, u64 n.nq, .slice none 0 0, .string ⟨#[]⟩, .slice none 0 0] 51))
  generalize (w4.alloc (.cells #[i64 4, u64 0, .slice none 0 0, .string ⟨#[]⟩, .slice a2 m2 c2, i64 1, u64 n.nt, .slice none 0 0, .string ⟨#[]⟩, .slice none 0 0, i64 1, u64 n.nq, .slice none 0 0, .string ⟨#[]⟩, .slice none 0 0] 51)) = w5 at *
  refine FN.mono (nlist_c _ _ _ w5) ?_
  rintro _ w6 ⟨rfl, hE6⟩
  have o6 := (o2.ext hE5).ext hE6
  simp [o6.cell 0 _ rfl, o6.cell 1 _ rfl, o6.cell 2 _ rfl, o6.cell 3 _ rfl, o6.cell 4 _ rfl, o6.thaw, cell_setCell]
  exact fin w6 _ _ (hE5.trans hE6) (hm.ext hE6)
def itemZ : It := .mk 0 0 [] ⟨#[]⟩ []
/-- What a function that answers an item and an error has answered: the item's rows are new. -/
def ItAns (w w' : World) (t : It) (cs : List Value) : Prop := ItP (fun k => w.heap.size ≤ k) w' t cs ∧ (∃ k x v s u, cs = [i64 k, u64 x, v, .string s, u] ∧ (∃ a m c, v = .slice a m c) ∧ (∃ a m c, u = .slice a m c)) ∧ Ext w w'
set_option maxHeartbeats 1000000 in
theorem nmade_c {n : Nam} (h : NamOk n) (E : Int) (w : World) : FN Tryz.prog 135 [namV n, i64 E, .func (.func 136) #[] #[]] w fun e w' => ∃ cs, e = .returned (.tuple #[.agg cs.toArray, i64 E]) ∧ ItAns w w' (if E = 0 then nameI n else itemZ) cs := by
  refine FN_enter Tryz.func135 rfl rfl (by kernel_rfl) ?_
  simp
  have hE1 : Ext w ((w.alloc (.cells #[u32 n.nn, u32 n.ns, u64 n.nt, u32 n.nq] 28)).alloc (.cells #[i64 0, u64 0, .slice none 0 0, .string ⟨#[]⟩, .slice none 0 0] 51)) := ((Ext.refl _).alloc _).alloc _
  have o1 : Blk ((w.alloc (.cells #[u32 n.nn, u32 n.ns, u64 n.nt, u32 n.nq] 28)).alloc (.cells #[i64 0, u64 0, .slice none 0 0, .string ⟨#[]⟩, .slice none 0 0] 51)) w.heap.size (namC n) := (Blk.new w _ _).ext ((Ext.refl _).alloc _)
  have o2 : Blk ((w.alloc (.cells #[u32 n.nn, u32 n.ns, u64 n.nt, u32 n.nq] 28)).alloc (.cells #[i64 0, u64 0, .slice none 0 0, .string ⟨#[]⟩, .slice none 0 0] 51)) (w.heap.size + 1) (leafC 0 0) := by
    have := Blk.new (w.alloc (.cells #[u32 n.nn, u32 n.ns, u64 n.nt, u32 n.nq] 28)) (leafC 0 0) 51
    simpa using this
  have z1 : ((w.alloc (.cells #[u32 n.nn, u32 n.ns, u64 n.nt, u32 n.nq] 28)).alloc (.cells #[i64 0, u64 0, .slice none 0 0, .string ⟨#[]⟩, .slice none 0 0] 51)).heap.size = w.heap.size + 1 + 1 := by simp
  generalize ((w.alloc (.cells #[u32 n.nn, u32 n.ns, u64 n.nt, u32 n.nq] 28)).alloc (.cells #[i64 0, u64 0, .slice none 0 0, .string ⟨#[]⟩, .slice none 0 0] 51)) = w1 at *
  by_cases h0 : E = 0
  · subst h0
    simp [o1.cell 0 _ rfl, o1.cell 1 _ rfl, o1.cell 2 _ rfl, o1.cell 3 _ rfl]
    refine FN.mono (nitem1_c h w1) ?_
    rintro _ w2 ⟨v2, rfl, ⟨a2, m2, c2, rfl⟩, hi2, hE2⟩
    have o3 := o2.ext hE2
    simp [o3.cell 0 _ rfl, o3.cell 1 _ rfl, o3.cell 2 _ rfl, o3.cell 3 _ rfl, o3.cell 4 _ rfl, o3.thaw, cell_setCell]
    refine ⟨hi2.go (five_mod w2 (w.heap.size + 1) _ _ _ _ _) (fun k _ hk => ⟨by omega, by omega⟩), ⟨_, _, _, _, _, rfl, ⟨_, _, _, rfl⟩, ⟨_, _, _, rfl⟩⟩, five_ext (hE1.trans hE2) (by omega) _ _ _ _ _⟩
  · have hb : (E != 0) = true := by simp [h0]
    rw [if_neg h0]
    simp [hb, o2.cell 0 _ rfl, o2.cell 1 _ rfl, o2.cell 2 _ rfl, o2.cell 3 _ rfl, o2.cell 4 _ rfl, o2.thaw, cell_setCell]
    exact ⟨leaf_it 0 0, ⟨_, _, _, _, _, rfl, ⟨_, _, _, rfl⟩, ⟨_, _, _, rfl⟩⟩, five_ext hE1 (by omega) _ _ _ _ _⟩
set_option maxHeartbeats 1000000 in
theorem nameItem_c {n : Nam} (h : NamOk n) (w : World) : FN Tryz.prog 102 [namV n] w fun e w' => ∃ cs, e = .returned (.tuple #[.agg cs.toArray, i64 (nameE n)]) ∧ ItAns w w' (if nameE n = 0 then nameI n else itemZ) cs := by
  refine FN_enter Tryz.func102 rfl rfl (by kernel_rfl) ?_
  simp
  have hE1 : Ext w ((w.alloc (.cells #[u32 n.nn, u32 n.ns, u64 n.nt, u32 n.nq] 28)).alloc (.cells #[i64 0, u64 0, .slice none 0 0, .string ⟨#[]⟩, .slice none 0 0] 51)) := ((Ext.refl _).alloc _).alloc _
  have o1 : Blk ((w.alloc (.cells #[u32 n.nn, u32 n.ns, u64 n.nt, u32 n.nq] 28)).alloc (.cells #[i64 0, u64 0, .slice none 0 0, .string ⟨#[]⟩, .slice none 0 0] 51)) w.heap.size (namC n) := (Blk.new w _ _).ext ((Ext.refl _).alloc _)
  have o2 : Blk ((w.alloc (.cells #[u32 n.nn, u32 n.ns, u64 n.nt, u32 n.nq] 28)).alloc (.cells #[i64 0, u64 0, .slice none 0 0, .string ⟨#[]⟩, .slice none 0 0] 51)) (w.heap.size + 1) (leafC 0 0) := by
    have := Blk.new (w.alloc (.cells #[u32 n.nn, u32 n.ns, u64 n.nt, u32 n.nq] 28)) (leafC 0 0) 51
    simpa using this
  have z1 : ((w.alloc (.cells #[u32 n.nn, u32 n.ns, u64 n.nt, u32 n.nq] 28)).alloc (.cells #[i64 0, u64 0, .slice none 0 0, .string ⟨#[]⟩, .slice none 0 0] 51)).heap.size = w.heap.size + 1 + 1 := by simp
  generalize ((w.alloc (.cells #[u32 n.nn, u32 n.ns, u64 n.nt, u32 n.nq] 28)).alloc (.cells #[i64 0, u64 0, .slice none 0 0, .string ⟨#[]⟩, .slice none 0 0] 51)) = w1 at *
  refine WC_drawC 6 (.F 0 <| .F 1 <| .C 2 <| .C 3 <| .F 4 <| .F 5 <| .Z) (fun _ => false) rfl (by kernel_rfl) fun W hW => ?_
  have hWE : Ext w1 W := hW ▸ Ext.drew _
  have p1 := o1.ext hWE
  simp [p1.cell 0 _ rfl, p1.cell 1 _ rfl, p1.cell 2 _ rfl, p1.cell 3 _ rfl]
  refine FN.mono (checkName_c n W) ?_
  rintro _ w2 ⟨rfl, hE2⟩
  simp
  refine KR_ext hE2 ?_
  simp
  refine FN.mono (nmade_c h (nameE n) w2) ?_
  rintro _ w3 ⟨cs, rfl, hi3, ⟨k, x, v, s, u, rfl, ⟨a, m, c, rfl⟩, ⟨a', m', c', rfl⟩⟩, hE3⟩
  have o3 := (o2.ext (hWE.trans hE2)).ext hE3
  have z2 := (hWE.trans hE2).size
  simp
  refine KR_ext hE3 ?_
  simp [o3.cell 0 _ rfl, o3.cell 1 _ rfl, o3.cell 2 _ rfl, o3.cell 3 _ rfl, o3.cell 4 _ rfl, o3.thaw, cell_setCell]
  refine ⟨hi3.go (five_mod w3 (w.heap.size + 1) _ _ _ _ _) (fun k _ hk => ⟨by omega, by omega⟩), ⟨_, _, _, _, _, rfl, ⟨_, _, _, rfl⟩, ⟨_, _, _, rfl⟩⟩, five_ext (hE1.trans ((hWE.trans hE2).trans hE3)) (by omega) _ _ _ _ _⟩
end Go.Proofs
namespace Go.Proofs
open Pk
set_option maxRecDepth 10000
def nam0 : Nam := ⟨0, 0, 0, 0⟩
def namOfL (l : List Int) : Nam := ⟨IntKind.u32.wrap (l[3]?.getD 0), IntKind.u32.wrap (l[4]?.getD 0), l[0]?.getD 0, IntKind.u32.wrap (l[1]?.getD 0)⟩
set_option maxHeartbeats 1000000 in
theorem nameOf1_c {w : World} {v : Value} {l : List Int} (h : Sl w 1 v l.length (l.map u64)) (hl : 5 ≤ l.length) (hb : l.length ≤ 2000000) : FN Tryz.prog 142 [v] w fun e w' => e = .returned (namV (namOfL l)) ∧ Ext w w' := by
  refine FN_enter Tryz.func142 rfl rfl (by kernel_rfl) ?_
  simp
  have hE1 : Ext w (w.alloc (.cells #[u32 0, u32 0, u64 0, u32 0] 28)) := (Ext.refl _).alloc _
  have o1 : Blk (w.alloc (.cells #[u32 0, u32 0, u64 0, u32 0] 28)) w.heap.size [u32 0, u32 0, u64 0, u32 0] := Blk.new w _ _
  generalize (w.alloc (.cells #[u32 0, u32 0, u64 0, u32 0] 28)) = w1 at *
  refine WC_drawC 16 (.F 0 <| .F 1 <| .F 2 <| .F 3 <| .F 4 <| .F 5 <| .F 6 <| .F 7 <| .F 8 <| .F 9 <| .F 10 <| .F 11 <| .F 12 <| .F 13 <| .F 14 <| .F 15 <| .Z) (fun _ => false) rfl (by kernel_rfl) fun W hW => ?_
  have hWE : Ext w1 W := hW ▸ Ext.drew _
  have hS := (h.ext hE1).ext hWE
  have ix := fun (i : Nat) (hi : i < l.length) => by
    have := hS.index (P := Tryz.prog) (t := 121) (by simp) .i64 i (by omega) (by omega) W
    simp at this
    exact this
  have c := fun (i : Nat) (hi : i < l.length) => hS.at_ i (u64 (l[i]?.getD 0)) (by rw [List.getElem?_map, List.getElem?_eq_getElem hi]; rfl)
  have c0 := c 0 (by omega)
  rw [Nat.add_zero] at c0
  have i0 := ix 0 (by omega)
  have i1 := ix 1 (by omega)
  have i3 := ix 3 (by omega)
  have i4 := ix 4 (by omega)
  simp at i0 i1 i3 i4
  have o2 := o1.ext hWE
  simp [i0, i1, i3, i4, c0, c 1 (by omega), c 3 (by omega), c 4 (by omega), o2.cell 0 _ rfl, o2.cell 1 _ rfl, o2.cell 2 _ rfl, o2.cell 3 _ rfl, o2.thaw, cell_setCell]
  have zc := (Nat.le_refl w.heap.size)
  exact ⟨⟨rfl, rfl, rfl, rfl⟩, ((((hE1.trans hWE).setCell _ _ zc).setCell _ _ zc).setCell _ _ zc).setCell _ _ zc⟩
theorem flat_take_le {α β : Type} (l : List α) (f : α → List β) (i : Nat) : ((l.take i).flatMap f).length ≤ (l.flatMap f).length := by
  conv => rhs; rw [← List.take_append_drop i l]
  rw [List.flatMap_append, List.length_append]
  omega
theorem flat_take_succ {α β : Type} {l : List α} (f : α → List β) {i : Nat} {x : α} (h : l[i]? = some x) : (l.take (i + 1)).flatMap f = (l.take i).flatMap f ++ f x := by
  rw [List.take_add_one, h, Option.toList_some, List.flatMap_append, List.flatMap_singleton]
/-- The numbers of an item, as a name's reader gathers them. -/
def numsY (y : It) : List Int := uintsOf y ++ y.l.flatMap uintsOf
def numsOf (t : It) : List Int := uintsOf t ++ t.l.flatMap numsY
def namN (t : It) : Nam := namOfL (numsOf t ++ [0, 0, 0, 0, 0])
noncomputable def namF (t : It) : Bool := decide (nameE (namN t) = 0) && decide (t = nameI (namN t))
theorem wrap32b (x : Int) : 0 ≤ IntKind.u32.wrap x ∧ IntKind.u32.wrap x ≤ 4294967295 := by
  simp only [IntKind.wrap, IntKind.bits, IntKind.signed]
  have := Int.emod_nonneg x (b := 2 ^ 32) (by decide)
  have := Int.emod_lt_of_pos x (b := 2 ^ 32) (by decide)
  simp
  omega
theorem namOfL_ok (l : List Int) : NamOk (namOfL l) := ⟨wrap32b _, wrap32b _, wrap32b _⟩
set_option maxHeartbeats 4000000 in
theorem nread_c {w : World} {t : It} {cs : List Value} (ht : ItC w t cs) (hn : (numsOf t).length ≤ 1000000) :
    FN Tryz.prog 141 [.agg cs.toArray, .func (.func 102) #[] #[], .func (.func 142) #[] #[]] w fun e w' => e = .returned (if namF t then .tuple #[namV (namN t), i64 0] else .tuple #[namV nam0, i64 130]) ∧ Ext w w' := by
  obtain ⟨ba, bc, la, lc, css, hO⟩ := itO ht
  have ecs := hO.cs
  have hcs : cs.toArray = #[i64 t.k, u64 t.n, .slice ba t.b.length bc, .string t.s, .slice la t.l.length lc] := by rw [ecs]
  rw [hcs]
  refine FN_enter Tryz.func141 rfl rfl (by kernel_rfl) ?_
  simp
  have hE1 : Ext w (((w.alloc (.cells #[i64 t.k, u64 t.n, .slice ba t.b.length bc, .string t.s, .slice la t.l.length lc] 51)).alloc (.cells #[u32 0, u32 0, u64 0, u32 0] 28)).alloc (.cells #[.slice none 0 0] 121)) := (((Ext.refl _).alloc _).alloc _).alloc _
  have o3 : Blk (((w.alloc (.cells #[i64 t.k, u64 t.n, .slice ba t.b.length bc, .string t.s, .slice la t.l.length lc] 51)).alloc (.cells #[u32 0, u32 0, u64 0, u32 0] 28)).alloc (.cells #[.slice none 0 0] 121)) w.heap.size cs := by
    have := (Blk.new w cs 51).ext (((Ext.refl _).alloc (.cells #[u32 0, u32 0, u64 0, u32 0] 28)).alloc (.cells #[.slice none 0 0] 121))
    rw [hcs] at this; exact this
  have o6 : Blk (((w.alloc (.cells #[i64 t.k, u64 t.n, .slice ba t.b.length bc, .string t.s, .slice la t.l.length lc] 51)).alloc (.cells #[u32 0, u32 0, u64 0, u32 0] 28)).alloc (.cells #[.slice none 0 0] 121)) (w.heap.size + 1) [u32 0, u32 0, u64 0, u32 0] := by
    have := (Blk.new (w.alloc (.cells #[i64 t.k, u64 t.n, .slice ba t.b.length bc, .string t.s, .slice la t.l.length lc] 51)) [u32 0, u32 0, u64 0, u32 0] 28).ext ((Ext.refl _).alloc (.cells #[.slice none 0 0] 121))
    simpa using this
  have o8 : Var (((w.alloc (.cells #[i64 t.k, u64 t.n, .slice ba t.b.length bc, .string t.s, .slice la t.l.length lc] 51)).alloc (.cells #[u32 0, u32 0, u64 0, u32 0] 28)).alloc (.cells #[.slice none 0 0] 121)) (w.heap.size + 1 + 1) (.slice none 0 0) := by
    have := Var.new ((w.alloc (.cells #[i64 t.k, u64 t.n, .slice ba t.b.length bc, .string t.s, .slice la t.l.length lc] 51)).alloc (.cells #[u32 0, u32 0, u64 0, u32 0] 28)) (.slice none 0 0) 121
    simpa using this
  have z1 : (((w.alloc (.cells #[i64 t.k, u64 t.n, .slice ba t.b.length bc, .string t.s, .slice la t.l.length lc] 51)).alloc (.cells #[u32 0, u32 0, u64 0, u32 0] 28)).alloc (.cells #[.slice none 0 0] 121)).heap.size = w.heap.size + 1 + 1 + 1 := by simp
  have hA0 : Acc w (((w.alloc (.cells #[i64 t.k, u64 t.n, .slice ba t.b.length bc, .string t.s, .slice la t.l.length lc] 51)).alloc (.cells #[u32 0, u32 0, u64 0, u32 0] 28)).alloc (.cells #[.slice none 0 0] 121)) (w.heap.size + 1 + 1) (.slice none 0 0) [] := ⟨o8, World.ownsRow_nil _ _ _ _, hE1⟩
  generalize (((w.alloc (.cells #[i64 t.k, u64 t.n, .slice ba t.b.length bc, .string t.s, .slice la t.l.length lc] 51)).alloc (.cells #[u32 0, u32 0, u64 0, u32 0] 28)).alloc (.cells #[.slice none 0 0] 121)) = w1 at *
  subst ecs
  obtain ⟨bl, hbl⟩ : ∃ bl, bl = w.heap.size + 1 + 1 := ⟨_, rfl⟩
  rw [← hbl] at hA0 z1 o8 ⊢
  have lenu : (uintsOf t).length ≤ 1000000 := by unfold numsOf at hn; simp only [List.length_append] at hn; omega
  refine FN.mono (add_c ht hA0 (by omega) (by simpa using (show (uintsOf t).length ≤ 1048576 by omega))) ?_
  rintro _ w2 ⟨⟨u2, rfl⟩, v2, hA2, hM2, hg2⟩
  have p3 := o3.mod hM2 (by rintro (h | ⟨h, -⟩) <;> simp [slN] at *; omega)
  have hlen := fun ty W => hO.l.isLen (P := Tryz.prog) (t := 48) (by simp) ty W
  simp [p3.cell 4 _ rfl, hlen]
  rw [List.nil_append] at hA2
  refine WC_loop (fun k ρ ds w' => ∃ (i : Nat) (v : Value), k = t.l.length - i ∧ i ≤ t.l.length ∧ ρ 1 = .func (.func 102) #[] #[] ∧ ρ 2 = .func (.func 142) #[] #[] ∧ ρ 3 = ptr w.heap.size ∧ ρ 6 = ptr (w.heap.size + 1) ∧ ρ 8 = ptr bl ∧ ρ 9 = .func (.func 167) #[] #[ptr bl] ∧ ρ 22 = .slice la t.l.length lc ∧ ρ 23 = i64 t.l.length ∧ ρ 24 = i64 i ∧ ds = [] ∧
    Acc w w' bl v (uintsOf t ++ (t.l.take i).flatMap numsY) ∧ Mod (fun k => bl ≤ k) w1 w') t.l.length ⟨0, v2, by simp, by simp, by simp, by simp, by simp, by simp, by simp, by simp, by simp, by simp, by simp, rfl, by simpa using hA2, hM2.weaken fun k hk => ?_⟩ ?_
  · rcases hk with h | ⟨h, -⟩
    · omega
    · simp [slN] at h
  rintro k ρ ds w3 ⟨i, v, rfl, hi, e1, e2, e3, e6, e8, e9, e22, e23, e24, rfl, hA, hM⟩
  by_cases hlt : i < t.l.length
  · have hq := List.getElem?_eq_getElem hlt
    obtain ⟨y, hy⟩ : ∃ y, y = t.l[i] := ⟨_, rfl⟩
    rw [← hy] at hq
    obtain ⟨ba', bc', la', lc', css', hyO, hyA⟩ := itRowO hO.l hO.c hq
    have hyA3 := hyA.ext hA.ext
    have ix := hO.l.index (P := Tryz.prog) (t := 48) (by simp) .i64 i (by omega) (by omega) w3
    simp at ix
    have hsuc := flat_take_succ numsY hq
    have hle := flat_take_le t.l numsY (i + 1)
    have htot : (uintsOf t ++ (t.l.take i).flatMap numsY ++ numsY y).length ≤ 1000000 := by
      unfold numsOf at hn
      rw [List.append_assoc, ← hsuc]
      simp only [List.length_append] at hn ⊢
      omega
    have hny : (numsY y).length = (uintsOf y).length + (y.l.flatMap uintsOf).length := by unfold numsY; rw [List.length_append]
    simp [e9, e22, e23, e24, hlt, ix, hyA3.c0, hyA3.c1, hyA3.c2, hyA3.c3, hyA3.c4]
    have hE4 : Ext w3 (w3.alloc (.cells #[i64 y.k, u64 y.n, .slice ba' y.b.length bc', .string y.s, .slice la' y.l.length lc'] 51)) := (Ext.refl _).alloc _
    have o11 := Blk.new w3 [i64 y.k, u64 y.n, .slice ba' y.b.length bc', .string y.s, .slice la' y.l.length lc'] 51
    have hyi := hyO.itC
    generalize (w3.alloc (.cells #[i64 y.k, u64 y.n, .slice ba' y.b.length bc', .string y.s, .slice la' y.l.length lc'] 51)) = w4 at *
    have hl2 : (uintsOf t ++ (t.l.take i).flatMap numsY ++ uintsOf y).length ≤ 1048576 := by
      simp only [List.length_append] at htot ⊢
      omega
    refine FN.mono (add_c hyi (hA.more hE4) (by omega) hl2) ?_
    rintro _ w5 ⟨⟨u5, rfl⟩, v5, hA5, hM5, hg5⟩
    have hrow := hA.row
    have hbl3 := hA.var.lt
    have p11 := o11.mod hM5 (by
      rintro (h | ⟨h, h'⟩)
      · omega
      · have := (hrow h).2; omega)
    have hlen' := fun ty W => hyO.l.isLen (P := Tryz.prog) (t := 48) (by simp) ty W
    simp [p11.cell 4 _ rfl, hlen']
    have hM5' : Mod (fun k => bl ≤ k) w1 w5 := (hM.trans hE4.mod).trans (hM5.weaken fun k hk => by
      rcases hk with h | ⟨h, h'⟩
      · omega
      · have := (hrow h).1; omega)
    refine WC_loop (fun k ρ ds w' => ∃ (j : Nat) (v : Value), k = y.l.length - j ∧ j ≤ y.l.length ∧ ρ 1 = .func (.func 102) #[] #[] ∧ ρ 2 = .func (.func 142) #[] #[] ∧ ρ 3 = ptr w.heap.size ∧ ρ 6 = ptr (w.heap.size + 1) ∧ ρ 8 = ptr bl ∧ ρ 9 = .func (.func 167) #[] #[ptr bl] ∧ ρ 22 = .slice la t.l.length lc ∧ ρ 23 = i64 t.l.length ∧ ρ 24 = i64 i ∧
      ρ 32 = .slice la' y.l.length lc' ∧ ρ 33 = i64 y.l.length ∧ ρ 34 = i64 j ∧ ds = [] ∧ Acc w w' bl v (uintsOf t ++ (t.l.take i).flatMap numsY ++ (uintsOf y ++ (y.l.take j).flatMap uintsOf)) ∧ Mod (fun k => bl ≤ k) w1 w') y.l.length
      ⟨0, v5, by simp, by simp, by simp [e1], by simp [e2], by simp [e3], by simp [e6], by simp [e8], by simp [e9], by simp [e22], by simp [e23], by simp [e24], by simp, by simp, by simp, rfl, by simpa using hA5, hM5'⟩ ?_
    rintro k ρ ds w6 ⟨j, v6, rfl, hj, f1, f2, f3, f6, f8, f9, f22, f23, f24, f32, f33, f34, rfl, hA6, hM6⟩
    by_cases hjt : j < y.l.length
    · have hqz := List.getElem?_eq_getElem hjt
      obtain ⟨x, hx⟩ : ∃ x, x = y.l[j] := ⟨_, rfl⟩
      rw [← hx] at hqz
      obtain ⟨ba2, bc2, la2, lc2, css2, hxO, hxA⟩ := itRowO hyO.l hyO.c hqz
      have hxA6 := hxA.ext hA6.ext
      have ix2 := hyO.l.index (P := Tryz.prog) (t := 48) (by simp) .i64 j (by omega) (by omega) w6
      simp at ix2
      have hsuc2 := flat_take_succ uintsOf hqz
      have hle2 := flat_take_le y.l uintsOf (j + 1)
      have hl6 : (uintsOf t ++ (t.l.take i).flatMap numsY ++ (uintsOf y ++ (y.l.take j).flatMap uintsOf) ++ uintsOf x).length ≤ 1048576 := by
        rw [List.append_assoc, List.append_assoc (uintsOf y), ← hsuc2]
        simp only [List.length_append] at htot ⊢
        omega
      simp [f9, f32, f33, f34, hjt, ix2, hxA6.c0, hxA6.c1, hxA6.c2, hxA6.c3, hxA6.c4]
      have hE7 : Ext w6 (w6.alloc (.cells #[i64 x.k, u64 x.n, .slice ba2 x.b.length bc2, .string x.s, .slice la2 x.l.length lc2] 51)) := (Ext.refl _).alloc _
      have hxi := hxO.itC
      generalize (w6.alloc (.cells #[i64 x.k, u64 x.n, .slice ba2 x.b.length bc2, .string x.s, .slice la2 x.l.length lc2] 51)) = w7 at *
      refine FN.mono (add_c hxi (hA6.more hE7) (by omega) hl6) ?_
      rintro _ w8 ⟨⟨u8', rfl⟩, v8, hA8, hM8, hg8⟩
      have hrow6 := hA6.row
      have hw1 : IntKind.i64.wrap ((j : Int) + 1) = j + 1 := wrap64 _ (by omega) (by have := hyO.ll; omega)
      simp [f1, f2, f3, f6, f8, f9, f22, f23, f24, f32, f33, f34, hw1]
      have hA8' : Acc w w8 bl v8 (uintsOf t ++ ((t.l.take i).flatMap numsY ++ (uintsOf y ++ (y.l.take (j + 1)).flatMap uintsOf))) := by
        rw [hsuc2]
        simpa [List.append_assoc] using hA8
      exact ⟨y.l.length - (j + 1), by omega, j + 1, rfl, by omega, by push_cast; rfl, ⟨v8, hA8'⟩, (hM6.trans hE7.mod).trans (hM8.weaken fun k hk => by
        rcases hk with h | ⟨h, h'⟩
        · omega
        · have := (hrow6 h).1; omega)⟩
    · obtain rfl : j = y.l.length := by omega
      have hw1 : IntKind.i64.wrap ((i : Int) + 1) = i + 1 := wrap64 _ (by omega) (by have := hO.ll; omega)
      simp [f1, f2, f3, f6, f8, f9, f22, f23, f24, f33, f34, hw1]
      rw [List.take_length] at hA6
      have hA6' : Acc w w6 bl v6 (uintsOf t ++ (t.l.take (i + 1)).flatMap numsY) := by
        rw [hsuc]
        unfold numsY at hA6 ⊢
        simpa [List.append_assoc] using hA6
      exact ⟨t.l.length - (i + 1), by omega, i + 1, rfl, by omega, by push_cast; rfl, ⟨v6, hA6'⟩, hM6⟩
  · obtain rfl : i = t.l.length := by omega
    rw [List.take_length] at hA
    have hA' : Acc w w3 bl v (numsOf t) := hA
    obtain ⟨⟨inf, z, hi1, hi2, hi3, hi4, hi5⟩, -⟩ := elOk_inv (show elOk (Tryz.prog.info? 26) 1 = true by kernel_rfl)
    have hzz : ((Tryz.prog.info? 26).bind fun i => i.zero) = some (u64 0) := by kernel_rfl
    have hbb : ((Tryz.prog.info? 26).map fun i => i.bytes) = some 8 := by kernel_rfl
    rw [hi1] at hzz hbb
    simp only [Option.bind_some, Option.map_some, Option.some.injEq] at hzz hbb
    rw [hi2] at hzz
    obtain rfl : z = u64 0 := Option.some.inj hzz
    have hblw := hA'.var.lt
    obtain ⟨v9, w9, hr9, ho9, hM9, hg9⟩ := append_zeros (P := Tryz.prog) (t := 121) (tn := 3) (ty := 121) (e := 26) (kn := .i64) (kq := .i64) (z := u64 0) (zs := [u64 0, u64 0, u64 0, u64 0, u64 0]) (k := 5) (by simp) (by simp) hi1 hi2 rfl hi3 (by omega) hA'.own (by omega) (by kernel_rfl) (by intro u hu; simp at hu; subst hu; rfl) (by omega) (by omega)
    have hrow := hA'.row
    have hM9' : Mod (fun k => bl ≤ k) w1 w9 := hM.trans (hM9.weaken fun k hk => by have := hrow hk.1; omega)
    have hE19 : Ext w w9 := ((hE1.mod (S := fun k => w.heap.size ≤ k)).trans (hM9'.weaken fun k hk => by omega)).ext fun _ h => h
    have hS9 : Sl w9 1 v9 (numsOf t ++ [0, 0, 0, 0, 0]).length ((numsOf t ++ [0, 0, 0, 0, 0]).map u64) := by
      have := sl_of_own ho9
      simpa using this
    simp at hr9
    simp [e2, e8, e23, e24, hA'.var.cell, hr9]
    refine FN.mono (nameOf1_c hS9 (by simp) (by simp; omega)) ?_
    rintro _ w10 ⟨rfl, hE10⟩
    rw [show namOfL (numsOf t ++ [0, 0, 0, 0, 0]) = namN t from rfl]
    have hNok : NamOk (namN t) := namOfL_ok _
    obtain ⟨N, hN⟩ : ∃ N, N = namN t := ⟨_, rfl⟩
    have hF : namF t = (decide (nameE N = 0) && decide (t = nameI N)) := by rw [hN]; rfl
    rw [← hN] at hNok ⊢
    rw [hF]
    have q3 := (o3.mod hM9' (by omega)).ext hE10
    have q6 := (o6.mod hM9' (by omega)).ext hE10
    have hX10 := hE19.trans hE10
    have b14 := Blk.new w10 [u32 N.nn, u32 N.ns, u64 N.nt, u32 N.nq] 28
    have hE11 : Ext w10 (w10.alloc (.cells #[u32 N.nn, u32 N.ns, u64 N.nt, u32 N.nq] 28)) := (Ext.refl _).alloc _
    simp [e1]
    generalize (w10.alloc (.cells #[u32 N.nn, u32 N.ns, u64 N.nt, u32 N.nq] 28)) = w11 at *
    refine FN.mono (nameItem_c hNok w11) ?_
    rintro _ w12 ⟨cs', rfl, hi12, ⟨k', x', bv', s', lv', rfl, ⟨a1, m1, c1, rfl⟩, ⟨a2, m2, c2, rfl⟩⟩, hE12⟩
    have b15 := Blk.new w12 [i64 k', u64 x', .slice a1 m1 c1, .string s', .slice a2 m2 c2] 51
    have hE13 : Ext w12 (w12.alloc (.cells #[i64 k', u64 x', .slice a1 m1 c1, .string s', .slice a2 m2 c2] 51)) := (Ext.refl _).alloc _
    simp
    generalize (w12.alloc (.cells #[i64 k', u64 x', .slice a1 m1 c1, .string s', .slice a2 m2 c2] 51)) = w13 at *
    have hX13 := hE11.trans (hE12.trans hE13)
    have q3' := q3.ext hX13
    have q6' := q6.ext hX13
    have b14' := b14.ext (hE12.trans hE13)
    have hXw := hX10.trans hX13
    have z0 : w.heap.size ≤ w.heap.size + 1 := by omega
    have hti := ItP.ext ht (hXw)
    by_cases h0 : nameE N = 0
    · have hb : (!nameE N != 0) = true := by simp [h0]
      have hb0 : (nameE N != 0) = false := by simp [h0]
      rw [if_pos h0] at hi12
      simp [h0, e3, q3'.cell 0 _ rfl, q3'.cell 1 _ rfl, q3'.cell 2 _ rfl, q3'.cell 3 _ rfl, q3'.cell 4 _ rfl, b15.cell 0 _ rfl, b15.cell 1 _ rfl, b15.cell 2 _ rfl, b15.cell 3 _ rfl, b15.cell 4 _ rfl]
      have hsm := same_c hti (ItP.any (ItP.ext hi12 hE13))
      refine FN.mono (hsm) ?_
      rintro _ w14 ⟨rfl, hE14⟩
      have q6'' := q6'.ext hE14
      have b14'' := b14'.ext hE14
      have hX14 := hXw.trans hE14
      by_cases ht' : t = nameI N
      · have hd := decide_eq_true ht'
        simp [hd, e6, q6''.cell 0 _ rfl, q6''.cell 1 _ rfl, q6''.cell 2 _ rfl, q6''.cell 3 _ rfl, q6''.thaw, b14''.cell 0 _ rfl, b14''.cell 1 _ rfl, b14''.cell 2 _ rfl, b14''.cell 3 _ rfl, cell_setCell]
        exact ⟨⟨h0, ht'⟩, (((hX14.setCell _ _ z0).setCell _ _ z0).setCell _ _ z0).setCell _ _ z0⟩
      · have hd := decide_eq_false ht'
        simp [hd, e6, q6''.cell 0 _ rfl, q6''.cell 1 _ rfl, q6''.cell 2 _ rfl, q6''.cell 3 _ rfl, q6''.thaw, cell_setCell]
        rw [if_neg (fun e => ht' e.2)]
        exact ⟨rfl, (((hX14.setCell _ _ z0).setCell _ _ z0).setCell _ _ z0).setCell _ _ z0⟩
    · have hb : (!nameE N != 0) = false := by simp [h0]
      have hb0 : (nameE N != 0) = true := by simp [h0]
      have hif : ¬ (nameE N = 0 ∧ t = nameI N) := fun e => h0 e.1
      rw [if_neg hif]
      simp [hb0, e6, q6'.cell 0 _ rfl, q6'.cell 1 _ rfl, q6'.cell 2 _ rfl, q6'.cell 3 _ rfl, q6'.thaw, cell_setCell]
      exact ⟨by simp [nam0], (((hXw.setCell _ _ z0).setCell _ _ z0).setCell _ _ z0).setCell _ _ z0⟩
/-- The name of an item, or that it is none's. -/
theorem nameOf_c {w : World} {t : It} {cs : List Value} (ht : ItC w t cs) (hn : (numsOf t).length ≤ 1000000) : FN Tryz.prog 105 [.agg cs.toArray] w fun e w' => e = .returned (if namF t then .tuple #[namV (namN t), i64 0] else .tuple #[namV nam0, i64 130]) ∧ Ext w w' := by
  obtain ⟨ba, bc, la, lc, css, hO⟩ := itO ht
  have ecs := hO.cs
  have hcs : cs.toArray = #[i64 t.k, u64 t.n, .slice ba t.b.length bc, .string t.s, .slice la t.l.length lc] := by rw [ecs]
  rw [hcs]
  refine FN_enter Tryz.func105 rfl rfl (by kernel_rfl) ?_
  simp
  have hE1 : Ext w ((w.alloc (.cells #[i64 t.k, u64 t.n, .slice ba t.b.length bc, .string t.s, .slice la t.l.length lc] 51)).alloc (.cells #[u32 0, u32 0, u64 0, u32 0] 28)) := ((Ext.refl _).alloc _).alloc _
  have o2 : Blk ((w.alloc (.cells #[i64 t.k, u64 t.n, .slice ba t.b.length bc, .string t.s, .slice la t.l.length lc] 51)).alloc (.cells #[u32 0, u32 0, u64 0, u32 0] 28)) (w.heap.size + 1) [u32 0, u32 0, u64 0, u32 0] := by
    have := Blk.new (w.alloc (.cells #[i64 t.k, u64 t.n, .slice ba t.b.length bc, .string t.s, .slice la t.l.length lc] 51)) [u32 0, u32 0, u64 0, u32 0] 28
    simpa using this
  generalize ((w.alloc (.cells #[i64 t.k, u64 t.n, .slice ba t.b.length bc, .string t.s, .slice la t.l.length lc] 51)).alloc (.cells #[u32 0, u32 0, u64 0, u32 0] 28)) = w1 at *
  have hr := nread_c (ItP.ext ht hE1) hn
  rw [hcs] at hr
  refine FN.mono (hr) ?_
  rintro _ w2 ⟨rfl, hE2⟩
  have q6 := o2.ext hE2
  have hX := hE1.trans hE2
  have z0 : w.heap.size ≤ w.heap.size + 1 := by omega
  cases hf : namF t with
  | true =>
    simp [q6.cell 0 _ rfl, q6.cell 1 _ rfl, q6.cell 2 _ rfl, q6.cell 3 _ rfl, q6.thaw, cell_setCell]
    exact (((hX.setCell _ _ z0).setCell _ _ z0).setCell _ _ z0).setCell _ _ z0
  | false =>
    simp [q6.cell 0 _ rfl, q6.cell 1 _ rfl, q6.cell 2 _ rfl, q6.cell 3 _ rfl, q6.thaw, cell_setCell]
    exact (((hX.setCell _ _ z0).setCell _ _ z0).setCell _ _ z0).setCell _ _ z0
end Go.Proofs
namespace Go.Proofs
open Pk
set_option maxRecDepth 10000
/-- A reader: what is left lies where it lay when it was begun. -/
structure Rd (w0 w : World) (b : Nat) (l : List It) : Prop where
  row : ∃ v css, Blk w b [v] ∧ SlB w0 5 v l.length css.flatten ∧ ItCs w0 l css
  ext : Ext w0 w
  lt : w0.heap.size ≤ b
  nn : ∀ x ∈ l, 0 ≤ x.n
theorem Rd.ext' {w0 w w' : World} {b : Nat} {l : List It} (h : Rd w0 w b l) (hM : Mod (fun k => w0.heap.size ≤ k ∧ k ≠ b) w w') : Rd w0 w' b l := by
  obtain ⟨⟨v, css, h1, h2, h3⟩, h4, h5, h6⟩ := h
  exact ⟨⟨v, css, h1.mod hM (fun h => h.2 rfl), h2, h3⟩, ((h4.mod (S := fun k => w0.heap.size ≤ k)).trans (hM.weaken fun k hk => hk.1)).ext fun _ h => h, h5, h6⟩
theorem Rd.more {w0 w w' : World} {b : Nat} {l : List It} (h : Rd w0 w b l) (hE : Ext w w') : Rd w0 w' b l := h.ext' hE.mod
def RdPost {α : Type} (w0 w w' : World) (b : Nat) (o : Option (α × List It)) (f : α → Value) (e : Ending) : Prop :=
  Mod (fun k => k = b) w w' ∧ match o with | none => e = .panicked (panV 180) | some (x, r) => e = .returned (f x) ∧ Rd w0 w' b r
theorem SlB.back {w0 w : World} {s : Nat} {v : Value} {n : Nat} {cs : List Value} (h : SlB w s v n cs) (hE : Ext w0 w) (hl : cs ≠ [] → slB v < w0.heap.size) : SlB w0 s v n cs := by
  refine ⟨h.len, h.val, fun j u hj => ?_⟩
  have hb := hl (fun e => by rw [e] at hj; simp at hj)
  have := h.at_ j u hj
  unfold World.cell? at this ⊢
  rw [hE.blk _ hb] at this
  exact this
theorem rd_next {w0 w : World} {b : Nat} {l : List It} (h : Rd w0 w b l) : FN Tryz.prog 106 [ptr b] w fun e w' => Mod (fun k => k = b) w w' ∧
    match l with
    | [] => e = .panicked (panV 180)
    | x :: r => (∃ cs ba bc la lc css, e = .returned (.agg cs.toArray) ∧ ItO w0 x cs (.slice ba x.b.length bc) (.slice la x.l.length lc) css) ∧ Rd w0 w' b r := by
  obtain ⟨⟨v, css, hb, hv, hc⟩, hE, hlt, hn⟩ := h
  cases l with
  | nil =>
    have hcss : css = [] := by simpa [ItPs] using hc
    subst hcss
    obtain ⟨va, vc, rfl⟩ := hv.isSlice
    refine FN_enter Tryz.func106 rfl rfl (by kernel_rfl) ?_
    have hlen := fun ty W => hv.isLen (P := Tryz.prog) (t := 48) (by simp) ty W
    have hE1 := (Ext.refl w).alloc (.cells #[i64 0, u64 0, .slice none 0 0, .string ⟨#[]⟩, .slice none 0 0] 51)
    simp [hb.cell 0 _ rfl]
    generalize (w.alloc (.cells #[i64 0, u64 0, .slice none 0 0, .string ⟨#[]⟩, .slice none 0 0] 51)) = w1 at *
    refine FN.mono (must_f 180 w1) ?_
    rintro _ w2 ⟨rfl, h2⟩
    subst h2
    simp
    exact hE1.mod
  | cons x r =>
    have hc' : ItPs (fun _ => True) w0 (x :: r) css := hc
    rw [ItPs] at hc'
    obtain ⟨c, rs, rfl, hx, hr⟩ := hc'
    obtain ⟨ba, bc, la, lc, css', hO⟩ := itO hx
    have ec := hO.cs
    have hS : Sl w 5 v (r.length + 1) (c ++ rs.flatten) := by
      have := (hv.toSl (by simp)).ext hE
      simpa using this
    have hvb : slB v < w0.heap.size := (hv.toSl (by simp)).lt (by rw [hv.len]; simp)
    refine FN.mono (next_t (k := x.k) (x := x.n) (c2 := .slice ba x.b.length bc) (c3 := .string x.s) (c4 := .slice la x.l.length lc) hb hS (by omega) ec ⟨_, _, _, rfl⟩ ⟨_, rfl⟩ ⟨_, _, _, rfl⟩) ?_
    rintro _ w' ⟨rfl, v', hb', hS', hsb, hM⟩
    have hE' : Ext w0 w' := ((hE.mod (S := fun k => w0.heap.size ≤ k)).trans (hM.weaken fun k hk => by omega)).ext fun _ h => h
    refine ⟨hM, ⟨c, ba, bc, la, lc, css', by rw [ec], hO⟩, ⟨v', rs, hb', SlB.back hS'.toB hE' (fun _ => by omega), hr⟩, hE', hlt, fun y hy => hn y (List.mem_cons_of_mem _ hy)⟩
def upI (l : List It) (bd : Int) : Option (Int × List It) := match l with | [] => none | x :: r => if x.k = 1 ∧ x.n ≤ bd then some (x.n, r) else none
def yesI (l : List It) : Option (Bool × List It) := match l with | [] => none | x :: r => if x.k = 5 then some (decide (x.n = 1), r) else none
theorem rdUpu64 {w0 w : World} {b : Nat} {l : List It} (h : Rd w0 w b l) (bd : Int) (hbd : ∀ x, 0 ≤ x → x ≤ bd → IntKind.u64.wrap x = x) :
    FN Tryz.prog 62 [ptr b, u64 bd] w fun e w' => RdPost w0 w w' b (upI l bd) (fun x => .int .u64 x) e := by
  refine FN_enter Tryz.func62 rfl rfl (by kernel_rfl) ?_
  simp
  refine FN.mono (rd_next h) ?_
  rintro e w1 ⟨hM1, hp⟩
  cases l with
  | nil =>
    obtain rfl : e = _ := hp
    simp
    exact ⟨hM1, rfl⟩
  | cons x r =>
    obtain ⟨ba, bc, la, lc, rfl, hR⟩ : ∃ ba bc la lc, e = .returned (.agg #[i64 x.k, u64 x.n, .slice ba x.b.length bc, .string x.s, .slice la x.l.length lc]) ∧ Rd w0 w1 b r := by
      obtain ⟨⟨cs, ba, bc, la, lc, css, rfl, hO⟩, hR⟩ := hp
      have := hO.cs
      subst this
      exact ⟨_, _, _, _, rfl, hR⟩
    have hn := h.nn x List.mem_cons_self
    have hE2 : Ext w1 (w1.alloc (.cells #[i64 x.k, u64 x.n, .slice ba x.b.length bc, .string x.s, .slice la x.l.length lc] 51)) := (Ext.refl _).alloc _
    have o2 : Blk (w1.alloc (.cells #[i64 x.k, u64 x.n, .slice ba x.b.length bc, .string x.s, .slice la x.l.length lc] 51)) w1.heap.size [i64 x.k, u64 x.n, .slice ba x.b.length bc, .string x.s, .slice la x.l.length lc] := Blk.new w1 _ _
    simp
    generalize (w1.alloc (.cells #[i64 x.k, u64 x.n, .slice ba x.b.length bc, .string x.s, .slice la x.l.length lc] 51)) = w2 at *
    by_cases hk : x.k = 1 ∧ x.n ≤ bd
    · have hw := hbd x.n hn hk.2
      have hu : upI (x :: r) bd = some (x.n, r) := if_pos hk
      simp [o2.cell 1 _ rfl, hk.1, hk.2]
      refine FN.mono (must_t 180 w2) ?_
      rintro _ w3 ⟨⟨u, rfl⟩, h3⟩
      subst h3
      simp [o2.cell 1 _ rfl]
      rw [hu]
      exact ⟨hM1.trans hE2.mod, rfl, hR.more hE2⟩
    · have hu : upI (x :: r) bd = none := if_neg hk
      rw [hu]
      by_cases hk1 : x.k = 1
      · have hx' : ¬ x.n ≤ bd := fun e => hk ⟨hk1, e⟩
        simp [o2.cell 1 _ rfl, hk1, hx']
        refine FN.mono (must_f 180 w2) ?_
        rintro _ w3 ⟨rfl, h3⟩
        subst h3
        simp
        exact ⟨hM1.trans hE2.mod, rfl⟩
      · simp [beq_dec, hk1]
        refine FN.mono (must_f 180 w2) ?_
        rintro _ w3 ⟨rfl, h3⟩
        subst h3
        simp
        exact ⟨hM1.trans hE2.mod, rfl⟩
theorem rdUpu32 {w0 w : World} {b : Nat} {l : List It} (h : Rd w0 w b l) (bd : Int) (hbd : ∀ x, 0 ≤ x → x ≤ bd → IntKind.u32.wrap x = x) :
    FN Tryz.prog 109 [ptr b, u64 bd] w fun e w' => RdPost w0 w w' b (upI l bd) (fun x => .int .u32 x) e := by
  refine FN_enter Tryz.func109 rfl rfl (by kernel_rfl) ?_
  simp
  refine FN.mono (rd_next h) ?_
  rintro e w1 ⟨hM1, hp⟩
  cases l with
  | nil =>
    obtain rfl : e = _ := hp
    simp
    exact ⟨hM1, rfl⟩
  | cons x r =>
    obtain ⟨ba, bc, la, lc, rfl, hR⟩ : ∃ ba bc la lc, e = .returned (.agg #[i64 x.k, u64 x.n, .slice ba x.b.length bc, .string x.s, .slice la x.l.length lc]) ∧ Rd w0 w1 b r := by
      obtain ⟨⟨cs, ba, bc, la, lc, css, rfl, hO⟩, hR⟩ := hp
      have := hO.cs
      subst this
      exact ⟨_, _, _, _, rfl, hR⟩
    have hn := h.nn x List.mem_cons_self
    have hE2 : Ext w1 (w1.alloc (.cells #[i64 x.k, u64 x.n, .slice ba x.b.length bc, .string x.s, .slice la x.l.length lc] 51)) := (Ext.refl _).alloc _
    have o2 : Blk (w1.alloc (.cells #[i64 x.k, u64 x.n, .slice ba x.b.length bc, .string x.s, .slice la x.l.length lc] 51)) w1.heap.size [i64 x.k, u64 x.n, .slice ba x.b.length bc, .string x.s, .slice la x.l.length lc] := Blk.new w1 _ _
    simp
    generalize (w1.alloc (.cells #[i64 x.k, u64 x.n, .slice ba x.b.length bc, .string x.s, .slice la x.l.length lc] 51)) = w2 at *
    by_cases hk : x.k = 1 ∧ x.n ≤ bd
    · have hw := hbd x.n hn hk.2
      have hu : upI (x :: r) bd = some (x.n, r) := if_pos hk
      simp [o2.cell 1 _ rfl, hk.1, hk.2]
      refine FN.mono (must_t 180 w2) ?_
      rintro _ w3 ⟨⟨u, rfl⟩, h3⟩
      subst h3
      simp [o2.cell 1 _ rfl, hw]
      rw [hu]
      exact ⟨hM1.trans hE2.mod, rfl, hR.more hE2⟩
    · have hu : upI (x :: r) bd = none := if_neg hk
      rw [hu]
      by_cases hk1 : x.k = 1
      · have hx' : ¬ x.n ≤ bd := fun e => hk ⟨hk1, e⟩
        simp [o2.cell 1 _ rfl, hk1, hx']
        refine FN.mono (must_f 180 w2) ?_
        rintro _ w3 ⟨rfl, h3⟩
        subst h3
        simp
        exact ⟨hM1.trans hE2.mod, rfl⟩
      · simp [beq_dec, hk1]
        refine FN.mono (must_f 180 w2) ?_
        rintro _ w3 ⟨rfl, h3⟩
        subst h3
        simp
        exact ⟨hM1.trans hE2.mod, rfl⟩
theorem rdUpu8 {w0 w : World} {b : Nat} {l : List It} (h : Rd w0 w b l) (bd : Int) (hbd : ∀ x, 0 ≤ x → x ≤ bd → IntKind.u8.wrap x = x) :
    FN Tryz.prog 73 [ptr b, u64 bd] w fun e w' => RdPost w0 w w' b (upI l bd) (fun x => .int .u8 x) e := by
  refine FN_enter Tryz.func73 rfl rfl (by kernel_rfl) ?_
  simp
  refine FN.mono (rd_next h) ?_
  rintro e w1 ⟨hM1, hp⟩
  cases l with
  | nil =>
    obtain rfl : e = _ := hp
    simp
    exact ⟨hM1, rfl⟩
  | cons x r =>
    obtain ⟨ba, bc, la, lc, rfl, hR⟩ : ∃ ba bc la lc, e = .returned (.agg #[i64 x.k, u64 x.n, .slice ba x.b.length bc, .string x.s, .slice la x.l.length lc]) ∧ Rd w0 w1 b r := by
      obtain ⟨⟨cs, ba, bc, la, lc, css, rfl, hO⟩, hR⟩ := hp
      have := hO.cs
      subst this
      exact ⟨_, _, _, _, rfl, hR⟩
    have hn := h.nn x List.mem_cons_self
    have hE2 : Ext w1 (w1.alloc (.cells #[i64 x.k, u64 x.n, .slice ba x.b.length bc, .string x.s, .slice la x.l.length lc] 51)) := (Ext.refl _).alloc _
    have o2 : Blk (w1.alloc (.cells #[i64 x.k, u64 x.n, .slice ba x.b.length bc, .string x.s, .slice la x.l.length lc] 51)) w1.heap.size [i64 x.k, u64 x.n, .slice ba x.b.length bc, .string x.s, .slice la x.l.length lc] := Blk.new w1 _ _
    simp
    generalize (w1.alloc (.cells #[i64 x.k, u64 x.n, .slice ba x.b.length bc, .string x.s, .slice la x.l.length lc] 51)) = w2 at *
    by_cases hk : x.k = 1 ∧ x.n ≤ bd
    · have hw := hbd x.n hn hk.2
      have hu : upI (x :: r) bd = some (x.n, r) := if_pos hk
      simp [o2.cell 1 _ rfl, hk.1, hk.2]
      refine FN.mono (must_t 180 w2) ?_
      rintro _ w3 ⟨⟨u, rfl⟩, h3⟩
      subst h3
      simp [o2.cell 1 _ rfl, hw]
      rw [hu]
      exact ⟨hM1.trans hE2.mod, rfl, hR.more hE2⟩
    · have hu : upI (x :: r) bd = none := if_neg hk
      rw [hu]
      by_cases hk1 : x.k = 1
      · have hx' : ¬ x.n ≤ bd := fun e => hk ⟨hk1, e⟩
        simp [o2.cell 1 _ rfl, hk1, hx']
        refine FN.mono (must_f 180 w2) ?_
        rintro _ w3 ⟨rfl, h3⟩
        subst h3
        simp
        exact ⟨hM1.trans hE2.mod, rfl⟩
      · simp [beq_dec, hk1]
        refine FN.mono (must_f 180 w2) ?_
        rintro _ w3 ⟨rfl, h3⟩
        subst h3
        simp
        exact ⟨hM1.trans hE2.mod, rfl⟩
theorem rdUpi64 {w0 w : World} {b : Nat} {l : List It} (h : Rd w0 w b l) (bd : Int) (hbd : ∀ x, 0 ≤ x → x ≤ bd → IntKind.i64.wrap x = x) :
    FN Tryz.prog 82 [ptr b, u64 bd] w fun e w' => RdPost w0 w w' b (upI l bd) (fun x => .int .i64 x) e := by
  refine FN_enter Tryz.func82 rfl rfl (by kernel_rfl) ?_
  simp
  refine FN.mono (rd_next h) ?_
  rintro e w1 ⟨hM1, hp⟩
  cases l with
  | nil =>
    obtain rfl : e = _ := hp
    simp
    exact ⟨hM1, rfl⟩
  | cons x r =>
    obtain ⟨ba, bc, la, lc, rfl, hR⟩ : ∃ ba bc la lc, e = .returned (.agg #[i64 x.k, u64 x.n, .slice ba x.b.length bc, .string x.s, .slice la x.l.length lc]) ∧ Rd w0 w1 b r := by
      obtain ⟨⟨cs, ba, bc, la, lc, css, rfl, hO⟩, hR⟩ := hp
      have := hO.cs
      subst this
      exact ⟨_, _, _, _, rfl, hR⟩
    have hn := h.nn x List.mem_cons_self
    have hE2 : Ext w1 (w1.alloc (.cells #[i64 x.k, u64 x.n, .slice ba x.b.length bc, .string x.s, .slice la x.l.length lc] 51)) := (Ext.refl _).alloc _
    have o2 : Blk (w1.alloc (.cells #[i64 x.k, u64 x.n, .slice ba x.b.length bc, .string x.s, .slice la x.l.length lc] 51)) w1.heap.size [i64 x.k, u64 x.n, .slice ba x.b.length bc, .string x.s, .slice la x.l.length lc] := Blk.new w1 _ _
    simp
    generalize (w1.alloc (.cells #[i64 x.k, u64 x.n, .slice ba x.b.length bc, .string x.s, .slice la x.l.length lc] 51)) = w2 at *
    by_cases hk : x.k = 1 ∧ x.n ≤ bd
    · have hw := hbd x.n hn hk.2
      have hu : upI (x :: r) bd = some (x.n, r) := if_pos hk
      simp [o2.cell 1 _ rfl, hk.1, hk.2]
      refine FN.mono (must_t 180 w2) ?_
      rintro _ w3 ⟨⟨u, rfl⟩, h3⟩
      subst h3
      simp [o2.cell 1 _ rfl, hw]
      rw [hu]
      exact ⟨hM1.trans hE2.mod, rfl, hR.more hE2⟩
    · have hu : upI (x :: r) bd = none := if_neg hk
      rw [hu]
      by_cases hk1 : x.k = 1
      · have hx' : ¬ x.n ≤ bd := fun e => hk ⟨hk1, e⟩
        simp [o2.cell 1 _ rfl, hk1, hx']
        refine FN.mono (must_f 180 w2) ?_
        rintro _ w3 ⟨rfl, h3⟩
        subst h3
        simp
        exact ⟨hM1.trans hE2.mod, rfl⟩
      · simp [beq_dec, hk1]
        refine FN.mono (must_f 180 w2) ?_
        rintro _ w3 ⟨rfl, h3⟩
        subst h3
        simp
        exact ⟨hM1.trans hE2.mod, rfl⟩
theorem wrap64u (x : Int) (h0 : 0 ≤ x) (h1 : x ≤ 18446744073709551615) : IntKind.u64.wrap x = x := by simp [IntKind.wrap, IntKind.signed, IntKind.bits]; omega
theorem rd_node {w0 w : World} {b : Nat} {l : List It} (h : Rd w0 w b l) : FN Tryz.prog 63 [ptr b] w fun e w' => RdPost w0 w w' b (upI l 4294967295) u32 e := by
  refine FN_enter Tryz.func63 rfl rfl (by kernel_rfl) ?_
  simp
  refine FN.mono (rdUpu32 h 4294967295 fun x h0 h1 => wrap32u x h0 h1) ?_
  rintro e w1 ⟨hM, hp⟩
  cases ho : upI l 4294967295 with
  | none =>
    rw [ho] at hp
    obtain rfl : e = _ := hp
    simp
    exact ⟨hM, rfl⟩
  | some p =>
    obtain ⟨x, r⟩ := p
    rw [ho] at hp
    obtain ⟨rfl, hR⟩ := hp
    simp
    exact ⟨hM, rfl, hR⟩
theorem rd_time {w0 w : World} {b : Nat} {l : List It} (h : Rd w0 w b l) : FN Tryz.prog 69 [ptr b] w fun e w' => RdPost w0 w w' b (upI l 4611686018427387903) u64 e := by
  refine FN_enter Tryz.func69 rfl rfl (by kernel_rfl) ?_
  simp
  refine FN.mono (rdUpu64 h 4611686018427387903 fun x h0 h1 => wrap64u x h0 (by omega)) ?_
  rintro e w1 ⟨hM, hp⟩
  cases ho : upI l 4611686018427387903 with
  | none =>
    rw [ho] at hp
    obtain rfl : e = _ := hp
    simp
    exact ⟨hM, rfl⟩
  | some p =>
    obtain ⟨x, r⟩ := p
    rw [ho] at hp
    obtain ⟨rfl, hR⟩ := hp
    simp
    exact ⟨hM, rfl, hR⟩
theorem rd_yes {w0 w : World} {b : Nat} {l : List It} (h : Rd w0 w b l) : FN Tryz.prog 68 [ptr b] w fun e w' => RdPost w0 w w' b (yesI l) (fun x => .bool x) e := by
  refine FN_enter Tryz.func68 rfl rfl (by kernel_rfl) ?_
  simp
  refine FN.mono (rd_next h) ?_
  rintro e w1 ⟨hM1, hp⟩
  cases l with
  | nil =>
    obtain rfl : e = _ := hp
    simp
    exact ⟨hM1, rfl⟩
  | cons x r =>
    obtain ⟨ba, bc, la, lc, rfl, hR⟩ : ∃ ba bc la lc, e = .returned (.agg #[i64 x.k, u64 x.n, .slice ba x.b.length bc, .string x.s, .slice la x.l.length lc]) ∧ Rd w0 w1 b r := by
      obtain ⟨⟨cs, ba, bc, la, lc, css, rfl, hO⟩, hR⟩ := hp
      have := hO.cs
      subst this
      exact ⟨_, _, _, _, rfl, hR⟩
    have hE2 : Ext w1 (w1.alloc (.cells #[i64 x.k, u64 x.n, .slice ba x.b.length bc, .string x.s, .slice la x.l.length lc] 51)) := (Ext.refl _).alloc _
    have o2 : Blk (w1.alloc (.cells #[i64 x.k, u64 x.n, .slice ba x.b.length bc, .string x.s, .slice la x.l.length lc] 51)) w1.heap.size [i64 x.k, u64 x.n, .slice ba x.b.length bc, .string x.s, .slice la x.l.length lc] := Blk.new w1 _ _
    simp
    generalize (w1.alloc (.cells #[i64 x.k, u64 x.n, .slice ba x.b.length bc, .string x.s, .slice la x.l.length lc] 51)) = w2 at *
    by_cases hk : x.k = 5
    · have hu : yesI (x :: r) = some (decide (x.n = 1), r) := if_pos hk
      simp [hk]
      refine FN.mono (must_t 180 w2) ?_
      rintro _ w3 ⟨⟨u, rfl⟩, h3⟩
      subst h3
      simp [beq_dec, o2.cell 1 _ rfl]
      rw [hu]
      exact ⟨hM1.trans hE2.mod, rfl, hR.more hE2⟩
    · have hu : yesI (x :: r) = none := if_neg hk
      rw [hu]
      simp [beq_dec, hk]
      refine FN.mono (must_f 180 w2) ?_
      rintro _ w3 ⟨rfl, h3⟩
      subst h3
      simp
      exact ⟨hM1.trans hE2.mod, rfl⟩
end Go.Proofs
