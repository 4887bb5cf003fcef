/-
  Contracts of the functions that the law reaches, step by step.
-/
import Derived.Test.YthamfghcfjhifaaGreatDoorAfA
import Derived.Test.YthamfghcfjhifaaGreatDoorAeV
import Derived.Test.YthamfghcfjhifaaGreatDoorEngAH
namespace Go.Proofs
open Pk
set_option maxRecDepth 10000
attribute [local simp] beq_dec bne_dec
theorem ruint_c (n : Int) (w : World) : FN Tryz.prog 83 [u64 n] w fun e w' => e = .returned (leafV 1 n) ∧ Ext w w' := by
  refine FN_enter Tryz.func83 rfl rfl (by kernel_rfl) ?_
  simp
  exact (Ext.refl w).alloc _
theorem rlist_c (a : Option Addr) (n c : Nat) (w : World) : FN Tryz.prog 18 [.slice a n c] w fun e w' => e = .returned (.agg #[i64 4, u64 0, .slice none 0 0, .string ⟨#[]⟩, .slice a n c]) ∧ Ext w w' := by
  refine FN_enter Tryz.func18 rfl rfl (by kernel_rfl) ?_
  simp
  exact (Ext.refl w).alloc _
theorem rbool_c (u : Bool) (w : World) : FN Tryz.prog 84 [.bool u] w fun e w' => e = .returned (leafV 5 (if u then 1 else 0)) ∧ Ext w w' := by
  refine FN_enter Tryz.func84 rfl rfl (by kernel_rfl) ?_
  cases u with
  | true =>
    simp
    exact (Ext.refl w).alloc _
  | false =>
    simp
    exact (Ext.refl w).alloc _
theorem nobody_c (a b : Int) (w : World) : FN Tryz.prog 147 [.agg #[u32 a, u32 b]] w fun e w' => e = .returned (.bool (decide (a = 0) && decide (b = 0))) ∧ Ext w w' := by
  refine FN_enter Tryz.func147 rfl rfl (by kernel_rfl) ?_
  simp
  have b1 : Blk (w.alloc (.cells #[u32 a, u32 b] 25)) w.heap.size [u32 a, u32 b] := Blk.new w _ _
  have hE1 : Ext w (w.alloc (.cells #[u32 a, u32 b] 25)) := (Ext.refl _).alloc _
  generalize (w.alloc (.cells #[u32 a, u32 b] 25)) = w1 at *
  by_cases h0 : a = 0
  · by_cases h1 : b = 0
    · simp [b1.cell 1 _ rfl, h0, h1]
      exact hE1
    · simp [b1.cell 1 _ rfl, h0, h1]
      exact hE1
  · simp [h0]
    exact hE1
/-- The document's item of an endpoint, and of a name. -/
def rendI (n s : Int) : It := if n = 0 ∧ s = 0 then listI [uintI 1, uintI 0] else listI [uintI 2, listI [uintI n, uintI s]]
def rnameI (n : Nam) : It := listI [rendI n.nn n.ns, uintI n.nt, uintI n.nq]
theorem rnameI_eq {n : Nam} (h : n.nn ≠ 0) : rnameI n = nameI n := by
  unfold rnameI nameI rendI endI
  rw [if_neg (fun e => h e.1), if_neg h]
set_option maxHeartbeats 1000000 in
theorem rend_c {n s : Int} (hn : 0 ≤ n ∧ n ≤ 4294967295) (hs : 0 ≤ s ∧ s ≤ 4294967295) (w : World) : FN Tryz.prog 115 [.agg #[u32 n, u32 s]] w fun e w' => ∃ v, e = .returned (.agg #[i64 4, u64 0, .slice none 0 0, .string ⟨#[]⟩, v]) ∧ (∃ a m c, v = .slice a m c) ∧ ItP (fun k => w.heap.size ≤ k) w' (rendI n s) [i64 4, u64 0, .slice none 0 0, .string ⟨#[]⟩, v] ∧ Ext w w' := by
  refine FN_enter Tryz.func115 rfl rfl (by kernel_rfl) ?_
  simp
  have hE1 : Ext w ((w.alloc (.cells #[u32 n, u32 s] 25)).alloc (.cells #[i64 0, u64 0, .slice none 0 0, .string ⟨#[]⟩, .slice none 0 0] 51)) := ((Ext.refl _).alloc _).alloc _
  have o1 : Blk ((w.alloc (.cells #[u32 n, u32 s] 25)).alloc (.cells #[i64 0, u64 0, .slice none 0 0, .string ⟨#[]⟩, .slice none 0 0] 51)) w.heap.size [u32 n, u32 s] := (Blk.new w _ _).ext ((Ext.refl _).alloc _)
  have o2 : Blk ((w.alloc (.cells #[u32 n, u32 s] 25)).alloc (.cells #[i64 0, u64 0, .slice none 0 0, .string ⟨#[]⟩, .slice none 0 0] 51)) (w.heap.size + 1) (leafC 0 0) := by
    have := Blk.new (w.alloc (.cells #[u32 n, u32 s] 25)) (leafC 0 0) 51
    simpa using this
  have z1 : ((w.alloc (.cells #[u32 n, u32 s] 25)).alloc (.cells #[i64 0, u64 0, .slice none 0 0, .string ⟨#[]⟩, .slice none 0 0] 51)).heap.size = w.heap.size + 1 + 1 := by simp
  generalize ((w.alloc (.cells #[u32 n, u32 s] 25)).alloc (.cells #[i64 0, u64 0, .slice none 0 0, .string ⟨#[]⟩, .slice none 0 0] 51)) = w1 at *
  have qn := wrap64u n hn.1 (by omega)
  have qs := wrap64u s hs.1 (by omega)
  refine FN.mono (nobody_c n s w1) ?_
  rintro _ wn ⟨rfl, hEn⟩
  have zn := hEn.size
  have o1 := o1.ext hEn
  have o2 := o2.ext hEn
  have z1n : w.heap.size + 1 + 1 ≤ wn.heap.size := by omega
  replace hE1 := hE1.trans hEn
  clear z1 hEn
  have fin : ∀ (w5 : World) (t : It) (v : Value), Ext wn w5 → ItP (fun k => wn.heap.size ≤ k) w5 t [i64 4, u64 0, .slice none 0 0, .string ⟨#[]⟩, v] → ItP (fun k => w.heap.size ≤ k) (((((w5.setCell ⟨(w.heap.size + 1), 0, none⟩ (i64 4)).setCell ⟨(w.heap.size + 1), 1, none⟩ (u64 0)).setCell ⟨(w.heap.size + 1), 2, none⟩ (.slice none 0 0)).setCell ⟨(w.heap.size + 1), 3, none⟩ (.string ⟨#[]⟩)).setCell ⟨(w.heap.size + 1), 4, none⟩ v) t [i64 4, u64 0, .slice none 0 0, .string ⟨#[]⟩, v] ∧ Ext w (((((w5.setCell ⟨(w.heap.size + 1), 0, none⟩ (i64 4)).setCell ⟨(w.heap.size + 1), 1, none⟩ (u64 0)).setCell ⟨(w.heap.size + 1), 2, none⟩ (.slice none 0 0)).setCell ⟨(w.heap.size + 1), 3, none⟩ (.string ⟨#[]⟩)).setCell ⟨(w.heap.size + 1), 4, none⟩ v) := by
    intro w5 t v h5 hi
    exact ⟨hi.go (five_mod w5 (w.heap.size + 1) _ _ _ _ _) (fun k _ hk => ⟨by omega, by omega⟩), five_ext (hE1.trans h5) (by omega) _ _ _ _ _⟩
  clear zn
  generalize wn = w1 at *
  by_cases h0 : n = 0 ∧ s = 0
  · have hb : (decide (n = 0) && decide (s = 0)) = true := by simp [h0]
    have e0 : rendI n s = listI [uintI 1, uintI 0] := by unfold rendI; rw [if_pos h0]
    rw [e0, hb]
    simp
    refine FN.mono (ruint_c 1 w1) ?_
    rintro _ w2 ⟨rfl, hE2⟩
    simp
    refine FN.mono (ruint_c 0 w2) ?_
    rintro _ w3 ⟨rfl, hE3⟩
    simp
    have z3 := (hE2.trans hE3).size
    have hm : ItP (fun k => w1.heap.size ≤ k) (w3.alloc (.cells #[i64 1, u64 1, .slice none 0 0, .string ⟨#[]⟩, .slice none 0 0, i64 1, u64 0, .slice none 0 0, .string ⟨#[]⟩, .slice none 0 0] 51)) (listI [uintI 1, uintI 0]) [i64 4, u64 0, .slice none 0 0, .string ⟨#[]⟩, .slice (some ⟨w3.heap.size, 0, none⟩) 2 2] :=
      made_it (css := [leafC 1 1, leafC 1 0]) (((itPs_nil).cons (leaf_it 1 0)).cons (leaf_it 1 1)) 2 rfl rfl z3 (by omega) 51
    have hE4 := (hE2.trans hE3).trans ((Ext.refl w3).alloc (.cells #[i64 1, u64 1, .slice none 0 0, .string ⟨#[]⟩, .slice none 0 0, i64 1, u64 0, .slice none 0 0, .string ⟨#[]⟩, .slice none 0 0] 51))
    generalize (w3.alloc (.cells #[i64 1, u64 1, .slice none 0 0, .string ⟨#[]⟩, .slice none 0 0, i64 1, u64 0, .slice none 0 0, .string ⟨#[]⟩, .slice none 0 0] 51)) = w4 at *
    refine FN.mono (rlist_c _ _ _ w4) ?_
    rintro _ w5 ⟨rfl, hE5⟩
    have o5 := (o2.ext hE4).ext hE5
    simp [o5.cell 0 _ rfl, o5.cell 1 _ rfl, o5.cell 2 _ rfl, o5.cell 3 _ rfl, o5.cell 4 _ rfl, o5.thaw, cell_setCell]
    exact fin w5 _ _ (hE4.trans hE5) (hm.ext hE5)
  · have hb : (decide (n = 0) && decide (s = 0)) = false := by
      rw [Bool.eq_false_iff]; intro h; simp at h; exact h0 h
    have e0 : rendI n s = listI [uintI 2, listI [uintI n, uintI s]] := by unfold rendI; rw [if_neg h0]
    rw [e0, hb]
    simp
    refine WC_drawC 8 (.F 1 <| .F 2 <| .F 3 <| .F 5 <| .F 6 <| .F 7 <| .C 0 <| .C 4 <| .Z) (fun _ => false) rfl (by kernel_rfl) fun W hW => ?_
    have hWE : Ext w1 W := hW ▸ Ext.drew _
    have p1 := o1.ext hWE
    simp [p1.cell 0 _ rfl, p1.cell 1 _ rfl, qn, qs]
    refine FN.mono (ruint_c 2 W) ?_
    rintro _ w2 ⟨rfl, hE2⟩
    simp
    refine KR_ext hE2 ?_
    simp
    refine FN.mono (ruint_c n w2) ?_
    rintro _ w3 ⟨rfl, hE3⟩
    simp
    refine KR_ext hE3 ?_
    simp
    refine FN.mono (ruint_c s w3) ?_
    rintro _ w4 ⟨rfl, hE4⟩
    simp
    have hX4 := (hWE.trans hE2).trans (hE3.trans hE4)
    have z4 := hX4.size
    have hm : ItP (fun k => w1.heap.size ≤ k) (w4.alloc (.cells #[i64 1, u64 n, .slice none 0 0, .string ⟨#[]⟩, .slice none 0 0, i64 1, u64 s, .slice none 0 0, .string ⟨#[]⟩, .slice none 0 0] 51)) (listI [uintI n, uintI s]) [i64 4, u64 0, .slice none 0 0, .string ⟨#[]⟩, .slice (some ⟨w4.heap.size, 0, none⟩) 2 2] :=
      made_it (css := [leafC 1 n, leafC 1 s]) (((itPs_nil).cons (leaf_it 1 s)).cons (leaf_it 1 n)) 2 rfl rfl z4 (by omega) 51
    have hE5 := hX4.trans ((Ext.refl w4).alloc (.cells #[i64 1, u64 n, .slice none 0 0, .string ⟨#[]⟩, .slice none 0 0, i64 1, u64 s, .slice none 0 0, .string ⟨#[]⟩, .slice none 0 0] 51))
    generalize (w4.alloc (.cells #[i64 1, u64 n, .slice none 0 0, .string ⟨#[]⟩, .slice none 0 0, i64 1, u64 s, .slice none 0 0, .string ⟨#[]⟩, .slice none 0 0] 51)) = w5 at *
    refine FN.mono (rlist_c _ _ _ w5) ?_
    rintro _ w6 ⟨rfl, hE6⟩
    have z6 := hE6.size
    have z5 := hE5.size
    have hm2 : ItP (fun k => w1.heap.size ≤ k) (w6.alloc (.cells #[i64 1, u64 2, .slice none 0 0, .string ⟨#[]⟩, .slice none 0 0, i64 4, u64 0, .slice none 0 0, .string ⟨#[]⟩, .slice (some ⟨w4.heap.size, 0, none⟩) 2 2] 51)) (listI [uintI 2, listI [uintI n, uintI s]]) [i64 4, u64 0, .slice none 0 0, .string ⟨#[]⟩, .slice (some ⟨w6.heap.size, 0, none⟩) 2 2] :=
      made_it (css := [leafC 1 2, [i64 4, u64 0, .slice none 0 0, .string ⟨#[]⟩, .slice (some ⟨w4.heap.size, 0, none⟩) 2 2]]) (((itPs_nil).cons (hm.ext hE6)).cons (leaf_it 1 2)) 2 rfl rfl (by omega) (by omega) 51
    have hE7 := (hE5.trans hE6).trans ((Ext.refl w6).alloc (.cells #[i64 1, u64 2, .slice none 0 0, .string ⟨#[]⟩, .slice none 0 0, i64 4, u64 0, .slice none 0 0, .string ⟨#[]⟩, .slice (some ⟨w4.heap.size, 0, none⟩) 2 2] 51))
    simp
    generalize (w6.alloc (.cells #[i64 1, u64 2, .slice none 0 0, .string ⟨#[]⟩, .slice none 0 0, i64 4, u64 0, .slice none 0 0, .string ⟨#[]⟩, .slice (some ⟨w4.heap.size, 0, none⟩) 2 2] 51)) = w7 at *
    refine FN.mono (rlist_c _ _ _ w7) ?_
    rintro _ w8 ⟨rfl, hE8⟩
    have o8 := (o2.ext hE7).ext hE8
    simp [o8.cell 0 _ rfl, o8.cell 1 _ rfl, o8.cell 2 _ rfl, o8.cell 3 _ rfl, o8.cell 4 _ rfl, o8.thaw, cell_setCell]
    exact fin w8 _ _ (hE7.trans hE8) (hm2.ext hE8)
set_option maxHeartbeats 1000000 in
theorem rnamei_c {n : Nam} (h : NamOk n) (w : World) : FN Tryz.prog 85 [namV n] w fun e w' => ∃ v, e = .returned (.agg #[i64 4, u64 0, .slice none 0 0, .string ⟨#[]⟩, v]) ∧ (∃ a m c, v = .slice a m c) ∧ ItP (fun k => w.heap.size ≤ k) w' (rnameI n) [i64 4, u64 0, .slice none 0 0, .string ⟨#[]⟩, v] ∧ Ext w w' := by
  refine FN_enter Tryz.func85 rfl rfl (by kernel_rfl) ?_
  simp
  have hE1 : Ext w ((w.alloc (.cells #[u32 n.nn, u32 n.ns, u64 n.nt, u32 n.nq] 28)).alloc (.cells #[i64 0, u64 0, .slice none 0 0, .string ⟨#[]⟩, .slice none 0 0] 51)) := ((Ext.refl _).alloc _).alloc _
  have o1 : Blk ((w.alloc (.cells #[u32 n.nn, u32 n.ns, u64 n.nt, u32 n.nq] 28)).alloc (.cells #[i64 0, u64 0, .slice none 0 0, .string ⟨#[]⟩, .slice none 0 0] 51)) w.heap.size (namC n) := (Blk.new w _ _).ext ((Ext.refl _).alloc _)
  have o2 : Blk ((w.alloc (.cells #[u32 n.nn, u32 n.ns, u64 n.nt, u32 n.nq] 28)).alloc (.cells #[i64 0, u64 0, .slice none 0 0, .string ⟨#[]⟩, .slice none 0 0] 51)) (w.heap.size + 1) (leafC 0 0) := by
    have := Blk.new (w.alloc (.cells #[u32 n.nn, u32 n.ns, u64 n.nt, u32 n.nq] 28)) (leafC 0 0) 51
    simpa using this
  have z1 : ((w.alloc (.cells #[u32 n.nn, u32 n.ns, u64 n.nt, u32 n.nq] 28)).alloc (.cells #[i64 0, u64 0, .slice none 0 0, .string ⟨#[]⟩, .slice none 0 0] 51)).heap.size = w.heap.size + 1 + 1 := by simp
  generalize ((w.alloc (.cells #[u32 n.nn, u32 n.ns, u64 n.nt, u32 n.nq] 28)).alloc (.cells #[i64 0, u64 0, .slice none 0 0, .string ⟨#[]⟩, .slice none 0 0] 51)) = w1 at *
  have fin : ∀ (w5 : World) (t : It) (v : Value), Ext w1 w5 → ItP (fun k => w1.heap.size ≤ k) w5 t [i64 4, u64 0, .slice none 0 0, .string ⟨#[]⟩, v] → ItP (fun k => w.heap.size ≤ k) (((((w5.setCell ⟨(w.heap.size + 1), 0, none⟩ (i64 4)).setCell ⟨(w.heap.size + 1), 1, none⟩ (u64 0)).setCell ⟨(w.heap.size + 1), 2, none⟩ (.slice none 0 0)).setCell ⟨(w.heap.size + 1), 3, none⟩ (.string ⟨#[]⟩)).setCell ⟨(w.heap.size + 1), 4, none⟩ v) t [i64 4, u64 0, .slice none 0 0, .string ⟨#[]⟩, v] ∧ Ext w (((((w5.setCell ⟨(w.heap.size + 1), 0, none⟩ (i64 4)).setCell ⟨(w.heap.size + 1), 1, none⟩ (u64 0)).setCell ⟨(w.heap.size + 1), 2, none⟩ (.slice none 0 0)).setCell ⟨(w.heap.size + 1), 3, none⟩ (.string ⟨#[]⟩)).setCell ⟨(w.heap.size + 1), 4, none⟩ v) := by
    intro w5 t v h5 hi
    exact ⟨hi.go (five_mod w5 (w.heap.size + 1) _ _ _ _ _) (fun k _ hk => ⟨by omega, by omega⟩), five_ext (hE1.trans h5) (by omega) _ _ _ _ _⟩
  refine WC_drawC 9 (.F 0 <| .F 1 <| .F 3 <| .F 4 <| .F 6 <| .F 7 <| .F 8 <| .C 2 <| .C 5 <| .Z) (fun _ => false) rfl (by kernel_rfl) fun W hW => ?_
  have hWE : Ext w1 W := hW ▸ Ext.drew _
  have p1 := o1.ext hWE
  have qq := wrap64u n.nq h.nq.1 (by have := h.nq.2; omega)
  simp [p1.cell 0 _ rfl, p1.cell 1 _ rfl, p1.cell 2 _ rfl, p1.cell 3 _ rfl, qq]
  refine FN.mono (rend_c h.nn h.ns W) ?_
  rintro _ w2 ⟨v2, rfl, ⟨a2, m2, c2, rfl⟩, hi2, hE2⟩
  simp
  refine KR_ext hE2 ?_
  simp
  refine FN.mono (ruint_c n.nt w2) ?_
  rintro _ w3 ⟨rfl, hE3⟩
  simp
  refine KR_ext hE3 ?_
  simp
  refine FN.mono (ruint_c n.nq w3) ?_
  rintro _ w4 ⟨rfl, hE4⟩
  simp
  have hX2 := hWE.trans hE2
  have hX4 := hX2.trans (hE3.trans hE4)
  have z4 := hX4.size
  have zW := hWE.size
  have hi4 : ItP (fun k => w1.heap.size ≤ k) w4 (rendI n.nn n.ns) [i64 4, u64 0, .slice none 0 0, .string ⟨#[]⟩, .slice a2 m2 c2] := hi2.go ((hE3.trans hE4).mod (S := fun _ => False)) fun k _ hk => ⟨by omega, _root_.id⟩
  have hm : ItP (fun k => w1.heap.size ≤ k) (w4.alloc (.cells #[i64 4, u64 0, .slice none 0 0, .string ⟨#[]⟩, .slice a2 m2 c2, i64 1, u64 n.nt, .slice none 0 0, .string ⟨#[]⟩, .slice none 0 0, i64 1, u64 n.nq, .slice none 0 0, .string ⟨#[]⟩, .slice none 0 0] 51)) (rnameI n) [i64 4, u64 0, .slice none 0 0, .string ⟨#[]⟩, .slice (some ⟨w4.heap.size, 0, none⟩) 3 3] :=
    made_it (css := [[i64 4, u64 0, .slice none 0 0, .string ⟨#[]⟩, .slice a2 m2 c2], leafC 1 n.nt, leafC 1 n.nq]) ((((itPs_nil).cons (leaf_it 1 n.nq)).cons (leaf_it 1 n.nt)).cons hi4) 3 rfl rfl z4 (by omega) 51
  have hE5 := hX4.trans ((Ext.refl w4).alloc (.cells #[i64 4, u64 0, .slice none 0 0, .string ⟨#[]⟩, .slice a2 m2 c2, i64 1, u64 n.nt, .slice none 0 0, .string ⟨#[]⟩, .slice none 0 0, i64 1, u64 n.nq, .slice none 0 0, .string ⟨#[]⟩, .slice none 0 0] 51))
  generalize (w4.alloc (.cells #[i64 4, u64 0, .slice none 0 0, .string ⟨#[]⟩, .slice a2 m2 c2, i64 1, u64 n.nt, .slice none 0 0, .string ⟨#[]⟩, .slice none 0 0, i64 1, u64 n.nq, .slice none 0 0, .string ⟨#[]⟩, .slice none 0 0] 51)) = w5 at *
  refine FN.mono (rlist_c _ _ _ w5) ?_
  rintro _ w6 ⟨rfl, hE6⟩
  have o6 := (o2.ext hE5).ext hE6
  simp [o6.cell 0 _ rfl, o6.cell 1 _ rfl, o6.cell 2 _ rfl, o6.cell 3 _ rfl, o6.cell 4 _ rfl, o6.thaw, cell_setCell]
  exact fin w6 _ _ (hE5.trans hE6) (hm.ext hE6)
end Go.Proofs
namespace Go.Proofs
open Pk
set_option maxRecDepth 10000
attribute [local simp] beq_dec bne_dec
/-- What the parts of a record that most Kinds share are laid as. -/
def partV (b : Nat) (r : Rec) : Nat → Value
  | 0 => .pointer (some ⟨b, 8, none⟩)
  | 1 => u64 r.num
  | 2 => leafV 1 r.num
  | 3 => .pointer (some ⟨b, 9, none⟩)
  | 4 => u32 r.node
  | 5 => u64 r.node
  | 6 => leafV 1 r.node
  | 7 => .pointer (some ⟨b, 10, none⟩)
  | 8 => u32 r.reg
  | 9 => u64 r.reg
  | 10 => leafV 1 r.reg
  | 11 => .pointer (some ⟨b, 11, none⟩)
  | 12 => .bool r.yes
  | _ => leafV 5 (if r.yes then 1 else 0)
structure Parts (w1 : World) (r : Rec) (b : Nat) (ρ0 : Env) (S : Nat → Bool) (ρ : Env) (W : World) : Prop where
  ext : Ext w1 W
  old : ∀ t, t < 4 → ρ t = ρ0 t
  val : ∀ j, j < 14 → S j = true → ρ (12 + j) = partV b r j
  al : ∀ j, j < 4 → S (14 + j) = true → ∃ c, ρ (4 + j) = ptr c ∧ Blk W c [i64 0, u64 0, .slice none 0 0, .string ⟨#[]⟩, .slice none 0 0] ∧ w1.heap.size ≤ c
  ne : ∀ i j, i < 4 → j < 4 → i ≠ j → S (14 + i) = true → S (14 + j) = true → ρ (4 + i) ≠ ρ (4 + j)
theorem Parts.stepV {w1 W W' : World} {r : Rec} {b : Nat} {ρ0 ρ : Env} {S : Nat → Bool} (h : Parts w1 r b ρ0 S ρ W) (j : Nat) (hj : j < 14) (hE : Ext W W') : Parts w1 r b ρ0 (upd S j) (put ρ (some (12 + j)) (partV b r j)) W' := by
  refine ⟨h.ext.trans hE, fun t ht => ?_, fun k hk hS => ?_, fun k hk hS => ?_, fun i k hi hk hne h1 h2 => ?_⟩
  · simp [show ¬ t = 12 + j by omega]
    exact h.old t ht
  · rw [upd_at] at hS
    by_cases e : k = j
    · subst e; simp
    · simp [e]
      exact h.val k hk (by simpa [e] using hS)
  · rw [upd_at] at hS
    obtain ⟨c, h1, h2, h3⟩ := h.al k hk (by simpa [show ¬ 14 + k = j by omega] using hS)
    refine ⟨c, ?_, h2.ext hE, h3⟩
    simp [show ¬ 4 + k = 12 + j by omega]
    exact h1
  · rw [upd_at] at h1 h2
    have := h.ne i k hi hk hne (by simpa [show ¬ 14 + i = j by omega] using h1) (by simpa [show ¬ 14 + k = j by omega] using h2)
    simp [show ¬ 4 + i = 12 + j by omega, show ¬ 4 + k = 12 + j by omega]
    exact this
theorem Parts.stepA {w1 W : World} {r : Rec} {b : Nat} {ρ0 ρ : Env} {S : Nat → Bool} (h : Parts w1 r b ρ0 S ρ W) (j : Nat) (hj : j < 4) : Parts w1 r b ρ0 (upd S (14 + j)) (put ρ (some (4 + j)) (ptr W.heap.size)) (W.alloc (.cells #[i64 0, u64 0, .slice none 0 0, .string ⟨#[]⟩, .slice none 0 0] 51)) := by
  have hE : Ext W (W.alloc (.cells #[i64 0, u64 0, .slice none 0 0, .string ⟨#[]⟩, .slice none 0 0] 51)) := (Ext.refl W).alloc _
  have pn : ∀ t, t ≠ 4 + j → put ρ (some (4 + j)) (ptr W.heap.size) t = ρ t := fun t ht => by simp [ht]
  have pe : put ρ (some (4 + j)) (ptr W.heap.size) (4 + j) = ptr W.heap.size := by simp
  have hS' : ∀ k, k ≠ 14 + j → upd S (14 + j) k = true → S k = true := fun k hk hS => by
    rw [upd_at] at hS
    simpa [hk] using hS
  have old : ∀ k, k < 4 → k ≠ j → upd S (14 + j) (14 + k) = true → ∃ c, ρ (4 + k) = ptr c ∧ Blk W c [i64 0, u64 0, .slice none 0 0, .string ⟨#[]⟩, .slice none 0 0] ∧ w1.heap.size ≤ c := fun k hk hne hS => h.al k hk (hS' _ (by omega) hS)
  have key : ∀ k, k < 4 → k ≠ j → upd S (14 + j) (14 + k) = true → ρ (4 + k) ≠ ptr W.heap.size := fun k hk hne hS e => by
    obtain ⟨c, g1, g2, g3⟩ := old k hk hne hS
    rw [g1] at e
    have := g2.lt
    simp at e
  refine ⟨h.ext.trans hE, fun t ht => ?_, fun k hk hS => ?_, fun k hk hS => ?_, fun i k hi hk hne h1 h2 => ?_⟩
  · rw [pn t (by omega)]
    exact h.old t ht
  · rw [pn _ (by omega)]
    exact h.val k hk (hS' _ (by omega) hS)
  · by_cases e : k = j
    · subst e
      exact ⟨W.heap.size, pe, Blk.new W [i64 0, u64 0, .slice none 0 0, .string ⟨#[]⟩, .slice none 0 0] 51, h.ext.size⟩
    · obtain ⟨c, g1, g2, g3⟩ := old k hk e hS
      exact ⟨c, by rw [pn _ (by omega)]; exact g1, g2.ext hE, g3⟩
  · by_cases e1 : i = j
    · subst e1
      rw [pe, pn _ (by omega)]
      intro e
      exact key k hk (by omega) h2 e.symm
    · by_cases e2 : k = j
      · subst e2
        rw [pe, pn _ (by omega)]
        exact key i hi e1 h1
      · rw [pn _ (by omega), pn _ (by omega)]
        exact h.ne i k hi hk hne (hS' _ (by omega) h1) (hS' _ (by omega) h2)
theorem blk5 {w : World} {c : Nat} (h : Blk w c [i64 0, u64 0, .slice none 0 0, .string ⟨#[]⟩, .slice none 0 0]) (k n : Int) : Blk (((((w.setCell ⟨c, 0, none⟩ (i64 k)).setCell ⟨c, 1, none⟩ (u64 n)).setCell ⟨c, 2, none⟩ (.slice none 0 0)).setCell ⟨c, 3, none⟩ (.string ⟨#[]⟩)).setCell ⟨c, 4, none⟩ (.slice none 0 0)) c (leafC k n) :=
  ((((h.set 0 (i64 k)).set 1 (u64 n)).set 2 (.slice none 0 0)).set 3 (.string ⟨#[]⟩)).set 4 (.slice none 0 0)
set_option maxHeartbeats 4000000 in
theorem docItem_c {r : Rec} (hr : RecOk r) (hk : 1 ≤ r.kind ∧ r.kind ≤ 5) (hwh : 0 ≤ r.what) (hwy : 0 ≤ r.why) (hnn : r.kind = 1 → r.nn ≠ 0) (w : World) : FN Tryz.prog 39 [recV r] w fun e w' => ∃ cs, e = .returned (.agg cs.toArray) ∧ ItC w' (itemR r) cs ∧ Ext w w' := by
  refine FN_enter Tryz.func39 rfl rfl (by kernel_rfl) ?_
  simp
  have hE1 : Ext w ((w.alloc (.cells #[i64 r.kind, u32 r.nn, u32 r.ns, u64 r.nt, u32 r.nq, i64 r.what, i64 r.why, u64 r.at', u64 r.num, u32 r.node, u32 r.reg, .bool r.yes, u64 r.fro, u64 r.til, u8 r.lev] 30)).alloc (.cells #[i64 0, u64 0, .slice none 0 0, .string ⟨#[]⟩, .slice none 0 0] 51)) := ((Ext.refl w).alloc _).alloc _
  have x1 : Blk ((w.alloc (.cells #[i64 r.kind, u32 r.nn, u32 r.ns, u64 r.nt, u32 r.nq, i64 r.what, i64 r.why, u64 r.at', u64 r.num, u32 r.node, u32 r.reg, .bool r.yes, u64 r.fro, u64 r.til, u8 r.lev] 30)).alloc (.cells #[i64 0, u64 0, .slice none 0 0, .string ⟨#[]⟩, .slice none 0 0] 51)) w.heap.size (recC r) := (Blk.new w (recC r) 30).ext ((Ext.refl _).alloc _)
  have i1 : Blk ((w.alloc (.cells #[i64 r.kind, u32 r.nn, u32 r.ns, u64 r.nt, u32 r.nq, i64 r.what, i64 r.why, u64 r.at', u64 r.num, u32 r.node, u32 r.reg, .bool r.yes, u64 r.fro, u64 r.til, u8 r.lev] 30)).alloc (.cells #[i64 0, u64 0, .slice none 0 0, .string ⟨#[]⟩, .slice none 0 0] 51)) (w.heap.size + 1) [i64 0, u64 0, .slice none 0 0, .string ⟨#[]⟩, .slice none 0 0] := by
    have := Blk.new (w.alloc (.cells #[i64 r.kind, u32 r.nn, u32 r.ns, u64 r.nt, u32 r.nq, i64 r.what, i64 r.why, u64 r.at', u64 r.num, u32 r.node, u32 r.reg, .bool r.yes, u64 r.fro, u64 r.til, u8 r.lev] 30)) [i64 0, u64 0, .slice none 0 0, .string ⟨#[]⟩, .slice none 0 0] 51
    simpa using this
  have z1 : ((w.alloc (.cells #[i64 r.kind, u32 r.nn, u32 r.ns, u64 r.nt, u32 r.nq, i64 r.what, i64 r.why, u64 r.at', u64 r.num, u32 r.node, u32 r.reg, .bool r.yes, u64 r.fro, u64 r.til, u8 r.lev] 30)).alloc (.cells #[i64 0, u64 0, .slice none 0 0, .string ⟨#[]⟩, .slice none 0 0] 51)).heap.size = w.heap.size + 1 + 1 := by simp
  generalize ((w.alloc (.cells #[i64 r.kind, u32 r.nn, u32 r.ns, u64 r.nt, u32 r.nq, i64 r.what, i64 r.why, u64 r.at', u64 r.num, u32 r.node, u32 r.reg, .bool r.yes, u64 r.fro, u64 r.til, u8 r.lev] 30)).alloc (.cells #[i64 0, u64 0, .slice none 0 0, .string ⟨#[]⟩, .slice none 0 0] 51)) = w1 at *
  obtain ⟨rb, hrb⟩ : ∃ rb, rb = w.heap.size := ⟨_, rfl⟩
  obtain ⟨ib, hib⟩ : ∃ ib, ib = w.heap.size + 1 := ⟨_, rfl⟩
  rw [← hrb] at x1
  rw [← hib] at i1
  rw [← hib, ← hrb]
  have qk := wrap64u r.kind (by omega) (by omega)
  simp [qk]
  refine FN.mono (ruint_c r.kind w1) ?_
  rintro _ w2 ⟨rfl, hE2⟩
  simp
  have hE3 : Ext w2 (w2.alloc (.cells (leafC 1 r.kind).toArray 51)) := (Ext.refl w2).alloc _
  have k3 : Blk (w2.alloc (.cells (leafC 1 r.kind).toArray 51)) w2.heap.size (leafC 1 r.kind) := Blk.new w2 (leafC 1 r.kind) 51
  have hE03 := hE1.trans (hE2.trans hE3)
  have x3 := x1.ext (hE2.trans hE3)
  have i3 := i1.ext (hE2.trans hE3)
  obtain ⟨tb, htb⟩ : ∃ tb, tb = w2.heap.size := ⟨_, rfl⟩
  rw [← htb] at k3
  rw [← htb, qk]
  have s2 := hE2.size
  have z3 : tb < (w2.alloc (.cells (leafC 1 r.kind).toArray 51)).heap.size := by rw [htb]; simp
  generalize (w2.alloc (.cells (leafC 1 r.kind).toArray 51)) = w3 at *
  have qn := wrap64u r.node hr.node.1 (by have := hr.node.2; omega)
  have qr := wrap64u r.reg hr.reg.1 (by have := hr.reg.2; omega)
  refine WC_drawI 18 (Parts w3 r rb _) rfl (by kernel_rfl) ⟨Ext.drew _, fun _ _ => rfl, fun _ _ h => (by cases h), fun _ _ h => (by cases h), fun _ _ _ _ _ h => (by cases h)⟩ ?_ ?_
  · intro i hi o ho S ρ W hS hb hG
    have e1 : ρ 1 = ptr rb := hG.old 1 (by omega)
    have x4 := x3.ext hG.ext
    have hcase : i = 0 ∨ i = 1 ∨ i = 2 ∨ i = 3 ∨ i = 4 ∨ i = 5 ∨ i = 6 ∨ i = 7 ∨ i = 8 ∨ i = 9 ∨ i = 10 ∨ i = 11 ∨ i = 12 ∨ i = 13 ∨ i = 14 ∨ i = 15 ∨ i = 16 ∨ i = 17 := by omega
    have hb' : ∀ k, (bsAt (befs _ 18) i).contains k = true → S k = true := fun k hk => hb k (by simpa using hk)
    rcases hcase with rfl | rfl | rfl | rfl | rfl | rfl | rfl | rfl | rfl | rfl | rfl | rfl | rfl | rfl | rfl | rfl | rfl | rfl
    · cases ho
      simp [e1]
      exact hG.stepV 0 (by omega) (Ext.refl _)
    · cases ho
      have q : ρ 12 = partV rb r 0 := hG.val 0 (by omega) (hb' 0 (by kernel_rfl))
      simp only [partV] at q
      simp [q, x4.cell 8 _ rfl]
      exact hG.stepV 1 (by omega) (Ext.refl _)
    · cases ho
      have q : ρ 13 = partV rb r 1 := hG.val 1 (by omega) (hb' 1 (by kernel_rfl))
      simp only [partV] at q
      simp [q]
      refine FN.mono (ruint_c r.num W) ?_
      rintro _ W' ⟨rfl, hE⟩
      simp
      exact hG.stepV 2 (by omega) hE
    · cases ho
      simp [e1]
      exact hG.stepV 3 (by omega) (Ext.refl _)
    · cases ho
      have q : ρ 15 = partV rb r 3 := hG.val 3 (by omega) (hb' 3 (by kernel_rfl))
      simp only [partV] at q
      simp [q, x4.cell 9 _ rfl]
      exact hG.stepV 4 (by omega) (Ext.refl _)
    · cases ho
      have q : ρ 16 = partV rb r 4 := hG.val 4 (by omega) (hb' 4 (by kernel_rfl))
      simp only [partV] at q
      simp [q, qn]
      exact hG.stepV 5 (by omega) (Ext.refl _)
    · cases ho
      have q : ρ 17 = partV rb r 5 := hG.val 5 (by omega) (hb' 5 (by kernel_rfl))
      simp only [partV] at q
      simp [q]
      refine FN.mono (ruint_c r.node W) ?_
      rintro _ W' ⟨rfl, hE⟩
      simp
      exact hG.stepV 6 (by omega) hE
    · cases ho
      simp [e1]
      exact hG.stepV 7 (by omega) (Ext.refl _)
    · cases ho
      have q : ρ 19 = partV rb r 7 := hG.val 7 (by omega) (hb' 7 (by kernel_rfl))
      simp only [partV] at q
      simp [q, x4.cell 10 _ rfl]
      exact hG.stepV 8 (by omega) (Ext.refl _)
    · cases ho
      have q : ρ 20 = partV rb r 8 := hG.val 8 (by omega) (hb' 8 (by kernel_rfl))
      simp only [partV] at q
      simp [q, qr]
      exact hG.stepV 9 (by omega) (Ext.refl _)
    · cases ho
      have q : ρ 21 = partV rb r 9 := hG.val 9 (by omega) (hb' 9 (by kernel_rfl))
      simp only [partV] at q
      simp [q]
      refine FN.mono (ruint_c r.reg W) ?_
      rintro _ W' ⟨rfl, hE⟩
      simp
      exact hG.stepV 10 (by omega) hE
    · cases ho
      simp [e1]
      exact hG.stepV 11 (by omega) (Ext.refl _)
    · cases ho
      have q : ρ 23 = partV rb r 11 := hG.val 11 (by omega) (hb' 11 (by kernel_rfl))
      simp only [partV] at q
      simp [q, x4.cell 11 _ rfl]
      exact hG.stepV 12 (by omega) (Ext.refl _)
    · cases ho
      have q : ρ 24 = partV rb r 12 := hG.val 12 (by omega) (hb' 12 (by kernel_rfl))
      simp only [partV] at q
      simp [q]
      refine FN.mono (rbool_c r.yes W) ?_
      rintro _ W' ⟨rfl, hE⟩
      simp
      exact hG.stepV 13 (by omega) hE
    · cases ho
      simp
      exact hG.stepA 0 (by omega)
    · cases ho
      simp
      exact hG.stepA 1 (by omega)
    · cases ho
      simp
      exact hG.stepA 2 (by omega)
    · cases ho
      simp
      exact hG.stepA 3 (by omega)
  · intro S ρ W hS hG
    have e1 : ρ 1 = ptr rb := hG.old 1 (by omega)
    have e2 : ρ 2 = ptr ib := hG.old 2 (by omega)
    have e3 : ρ 3 = ptr tb := hG.old 3 (by omega)
    have v2 : ρ 14 = partV rb r 2 := hG.val 2 (by omega) (hS 2 (by omega))
    have v6 : ρ 18 = partV rb r 6 := hG.val 6 (by omega) (hS 6 (by omega))
    have v10 : ρ 22 = partV rb r 10 := hG.val 10 (by omega) (hS 10 (by omega))
    have v13 : ρ 25 = partV rb r 13 := hG.val 13 (by omega) (hS 13 (by omega))
    simp only [partV] at v2 v6 v10 v13
    obtain ⟨c4, f4, g4, l4⟩ := hG.al 0 (by omega) (hS 14 (by omega))
    obtain ⟨c5, f5, g5, l5⟩ := hG.al 1 (by omega) (hS 15 (by omega))
    obtain ⟨c6, f6, g6, l6⟩ := hG.al 2 (by omega) (hS 16 (by omega))
    obtain ⟨c7, f7, g7, l7⟩ := hG.al 3 (by omega) (hS 17 (by omega))
    have n45 : c4 ≠ c5 := fun e => hG.ne 0 1 (by omega) (by omega) (by omega) (hS 14 (by omega)) (hS 15 (by omega)) (by rw [f4, f5, e])
    have n46 : c4 ≠ c6 := fun e => hG.ne 0 2 (by omega) (by omega) (by omega) (hS 14 (by omega)) (hS 16 (by omega)) (by rw [f4, f6, e])
    have n47 : c4 ≠ c7 := fun e => hG.ne 0 3 (by omega) (by omega) (by omega) (hS 14 (by omega)) (hS 17 (by omega)) (by rw [f4, f7, e])
    have n56 : c5 ≠ c6 := fun e => hG.ne 1 2 (by omega) (by omega) (by omega) (hS 15 (by omega)) (hS 16 (by omega)) (by rw [f5, f6, e])
    have n57 : c5 ≠ c7 := fun e => hG.ne 1 3 (by omega) (by omega) (by omega) (hS 15 (by omega)) (hS 17 (by omega)) (by rw [f5, f7, e])
    have n67 : c6 ≠ c7 := fun e => hG.ne 2 3 (by omega) (by omega) (by omega) (hS 16 (by omega)) (hS 17 (by omega)) (by rw [f6, f7, e])
    have f4 : ρ 4 = ptr c4 := f4
    have f5 : ρ 5 = ptr c5 := f5
    have f6 : ρ 6 = ptr c6 := f6
    have f7 : ρ 7 = ptr c7 := f7
    have hE4 := hG.ext
    have x4 := x3.ext hE4
    have i4 := i3.ext hE4
    have k4 := k3.ext hE4
    clear hG hS
    obtain ⟨yes, hyes⟩ : ∃ y : Int, y = (if r.yes then 1 else 0) := ⟨_, rfl⟩
    rw [← hyes] at v13
    simp [v2, f4, g4.cell 0 _ rfl, g4.cell 1 _ rfl, g4.cell 2 _ rfl, g4.cell 3 _ rfl, g4.cell 4 _ rfl, g4.thaw, cell_setCell]
    have M4 := five_mod W c4 (i64 1) (u64 (r.num)) (.slice none 0 0) (.string ⟨#[]⟩) (.slice none 0 0)
    have h4 := blk5 g4 1 (r.num)
    replace g5 := g5.mod M4 (fun e => n45 e.symm)
    replace g6 := g6.mod M4 (fun e => n46 e.symm)
    replace g7 := g7.mod M4 (fun e => n47 e.symm)
    replace x4 := x4.mod M4 (by omega)
    replace i4 := i4.mod M4 (by omega)
    replace k4 := k4.mod M4 (by omega)
    replace hE4 := (hE4.mod (S := fun _ => False)).trans' M4 (fun i e => .inr (by omega)) |>.ext (fun _ h => h.elim)
    generalize (((((W.setCell ⟨c4, 0, none⟩ (i64 (1))).setCell ⟨c4, 1, none⟩ (u64 (r.num))).setCell ⟨c4, 2, none⟩ (.slice none 0 0)).setCell ⟨c4, 3, none⟩ (.string ⟨#[]⟩)).setCell ⟨c4, 4, none⟩ (.slice none 0 0)) = V1 at *
    simp [v6, f5, g5.cell 0 _ rfl, g5.cell 1 _ rfl, g5.cell 2 _ rfl, g5.cell 3 _ rfl, g5.cell 4 _ rfl, g5.thaw, cell_setCell]
    have M5 := five_mod V1 c5 (i64 1) (u64 (r.node)) (.slice none 0 0) (.string ⟨#[]⟩) (.slice none 0 0)
    have h5 := blk5 g5 1 (r.node)
    replace g6 := g6.mod M5 (fun e => n56 e.symm)
    replace g7 := g7.mod M5 (fun e => n57 e.symm)
    replace h4 := h4.mod M5 n45
    replace x4 := x4.mod M5 (by omega)
    replace i4 := i4.mod M5 (by omega)
    replace k4 := k4.mod M5 (by omega)
    replace hE4 := (hE4.mod (S := fun _ => False)).trans' M5 (fun i e => .inr (by omega)) |>.ext (fun _ h => h.elim)
    generalize (((((V1.setCell ⟨c5, 0, none⟩ (i64 (1))).setCell ⟨c5, 1, none⟩ (u64 (r.node))).setCell ⟨c5, 2, none⟩ (.slice none 0 0)).setCell ⟨c5, 3, none⟩ (.string ⟨#[]⟩)).setCell ⟨c5, 4, none⟩ (.slice none 0 0)) = V2 at *
    simp [v10, f6, g6.cell 0 _ rfl, g6.cell 1 _ rfl, g6.cell 2 _ rfl, g6.cell 3 _ rfl, g6.cell 4 _ rfl, g6.thaw, cell_setCell]
    have M6 := five_mod V2 c6 (i64 1) (u64 (r.reg)) (.slice none 0 0) (.string ⟨#[]⟩) (.slice none 0 0)
    have h6 := blk5 g6 1 (r.reg)
    replace g7 := g7.mod M6 (fun e => n67 e.symm)
    replace h4 := h4.mod M6 n46
    replace h5 := h5.mod M6 n56
    replace x4 := x4.mod M6 (by omega)
    replace i4 := i4.mod M6 (by omega)
    replace k4 := k4.mod M6 (by omega)
    replace hE4 := (hE4.mod (S := fun _ => False)).trans' M6 (fun i e => .inr (by omega)) |>.ext (fun _ h => h.elim)
    generalize (((((V2.setCell ⟨c6, 0, none⟩ (i64 (1))).setCell ⟨c6, 1, none⟩ (u64 (r.reg))).setCell ⟨c6, 2, none⟩ (.slice none 0 0)).setCell ⟨c6, 3, none⟩ (.string ⟨#[]⟩)).setCell ⟨c6, 4, none⟩ (.slice none 0 0)) = V3 at *
    simp [v13, f7, g7.cell 0 _ rfl, g7.cell 1 _ rfl, g7.cell 2 _ rfl, g7.cell 3 _ rfl, g7.cell 4 _ rfl, g7.thaw, cell_setCell]
    have M7 := five_mod V3 c7 (i64 5) (u64 (yes)) (.slice none 0 0) (.string ⟨#[]⟩) (.slice none 0 0)
    have h7 := blk5 g7 5 (yes)
    replace h4 := h4.mod M7 n47
    replace h5 := h5.mod M7 n57
    replace h6 := h6.mod M7 n67
    replace x4 := x4.mod M7 (by omega)
    replace i4 := i4.mod M7 (by omega)
    replace k4 := k4.mod M7 (by omega)
    replace hE4 := (hE4.mod (S := fun _ => False)).trans' M7 (fun i e => .inr (by omega)) |>.ext (fun _ h => h.elim)
    generalize (((((V3.setCell ⟨c7, 0, none⟩ (i64 (5))).setCell ⟨c7, 1, none⟩ (u64 (yes))).setCell ⟨c7, 2, none⟩ (.slice none 0 0)).setCell ⟨c7, 3, none⟩ (.string ⟨#[]⟩)).setCell ⟨c7, 4, none⟩ (.slice none 0 0)) = V4 at *
    have hE04 := hE03.trans hE4
    have zV := hE4.size
    have wib : w.heap.size ≤ ib := by omega
    clear v2 v6 v10 v13 g4 M4 M5 M6 M7
    have fin : ∀ (W5 : World) (t : It) (v : Value), Ext V4 W5 → ItP (fun k => V4.heap.size ≤ k) W5 t [i64 4, u64 0, .slice none 0 0, .string ⟨#[]⟩, v] → ItC (((((W5.setCell ⟨ib, 0, none⟩ (i64 4)).setCell ⟨ib, 1, none⟩ (u64 0)).setCell ⟨ib, 2, none⟩ (.slice none 0 0)).setCell ⟨ib, 3, none⟩ (.string ⟨#[]⟩)).setCell ⟨ib, 4, none⟩ v) t [i64 4, u64 0, .slice none 0 0, .string ⟨#[]⟩, v] ∧ Ext w (((((W5.setCell ⟨ib, 0, none⟩ (i64 4)).setCell ⟨ib, 1, none⟩ (u64 0)).setCell ⟨ib, 2, none⟩ (.slice none 0 0)).setCell ⟨ib, 3, none⟩ (.string ⟨#[]⟩)).setCell ⟨ib, 4, none⟩ v) := by
      intro W5 t v h5 hi
      exact ⟨(hi.go (S := fun k => k = ib) (Pd' := fun _ => True) (five_mod W5 ib _ _ _ _ _) (fun k _ hk => ⟨trivial, by omega⟩)).any, five_ext (hE04.trans h5) wib _ _ _ _ _⟩
    have hcase : r.kind = 1 ∨ r.kind = 2 ∨ r.kind = 3 ∨ r.kind = 4 ∨ r.kind = 5 := by omega
    rcases hcase with kk | kk | kk | kk | kk
    · have e0 : itemR r = listI [uintI r.kind, rnameI (namR r), uintI r.what, uintI r.why, uintI r.at'] := by
        unfold itemR partsR
        rw [if_pos kk]
        rw [rnameI_eq (n := namR r) (hnn kk)]
        rfl
      rw [e0]
      have qw := wrap64u r.what hwh (by have := hr.what.2; omega)
      have qy := wrap64u r.why hwy (by have := hr.why.2; omega)
      simp [e1, kk, x4.cell 0 _ rfl]
      refine WC_drawC 15 (.F 0 <| .F 1 <| .F 2 <| .F 4 <| .F 5 <| .F 6 <| .F 8 <| .F 9 <| .F 10 <| .F 12 <| .F 13 <| .C 3 <| .C 7 <| .C 11 <| .C 14 <| .Z) (fun _ => false) rfl (by kernel_rfl) fun W9 hW9 => ?_
      have hWE : Ext V4 W9 := hW9 ▸ Ext.drew _
      replace x4 := x4.ext hWE
      replace k4 := k4.ext hWE
      simp [e1, e3, x4.cell 1 _ rfl, x4.cell 2 _ rfl, x4.cell 3 _ rfl, x4.cell 4 _ rfl, x4.cell 5 _ rfl, x4.cell 6 _ rfl, x4.cell 7 _ rfl, k4.cell 0 _ rfl, k4.cell 1 _ rfl, k4.cell 2 _ rfl, k4.cell 3 _ rfl, k4.cell 4 _ rfl, qw, qy]
      refine FN.mono (rnamei_c (n := namR r) ⟨hr.nn, hr.ns, hr.nq⟩ W9) ?_
      rintro _ U1 ⟨v2, rfl, ⟨a2, m2, c2, rfl⟩, hi2, hU1⟩
      simp
      refine KR_ext hU1 ?_
      simp
      have hi4 := hi2
      refine FN.mono (ruint_c r.what U1) ?_
      rintro _ U2 ⟨rfl, hU2⟩
      simp
      refine KR_ext hU2 ?_
      simp
      refine FN.mono (ruint_c r.why U2) ?_
      rintro _ U3 ⟨rfl, hU3⟩
      simp
      refine KR_ext hU3 ?_
      simp
      refine FN.mono (ruint_c r.at' U3) ?_
      rintro _ U4 ⟨rfl, hU4⟩
      simp
      refine KR_ext hU4 ?_
      simp
      have zW := hWE.size
      replace hi4 : ItP (fun k => V4.heap.size ≤ k) U4 (rnameI (namR r)) [i64 4, u64 0, .slice none 0 0, .string ⟨#[]⟩, .slice a2 m2 c2] := hi4.go (((hU2.trans hU3).trans hU4).mod (S := fun _ => False)) fun k _ hk => ⟨by omega, _root_.id⟩
      have hm : ItP (fun k => V4.heap.size ≤ k) (U4.alloc (.cells #[i64 1, u64 (r.kind), .slice none 0 0, .string ⟨#[]⟩, .slice none 0 0, i64 4, u64 0, .slice none 0 0, .string ⟨#[]⟩, .slice a2 m2 c2, i64 1, u64 (r.what), .slice none 0 0, .string ⟨#[]⟩, .slice none 0 0, i64 1, u64 (r.why), .slice none 0 0, .string ⟨#[]⟩, .slice none 0 0, i64 1, u64 (r.at'), .slice none 0 0, .string ⟨#[]⟩, .slice none 0 0] 51)) (listI [uintI r.kind, rnameI (namR r), uintI r.what, uintI r.why, uintI r.at']) [i64 4, u64 0, .slice none 0 0, .string ⟨#[]⟩, .slice (some ⟨U4.heap.size, 0, none⟩) 5 5] :=
        made_it (css := [leafC 1 r.kind, [i64 4, u64 0, .slice none 0 0, .string ⟨#[]⟩, .slice a2 m2 c2], leafC 1 r.what, leafC 1 r.why, leafC 1 r.at']) ((((((itPs_nil).cons (leaf_it 1 r.at')).cons (leaf_it 1 r.why)).cons (leaf_it 1 r.what)).cons (hi4)).cons (leaf_it 1 r.kind)) 5 rfl rfl (((((hWE.trans hU1).trans hU2).trans hU3).trans hU4)).size (by omega) 51
      have hE5 : Ext V4 (U4.alloc (.cells #[i64 1, u64 (r.kind), .slice none 0 0, .string ⟨#[]⟩, .slice none 0 0, i64 4, u64 0, .slice none 0 0, .string ⟨#[]⟩, .slice a2 m2 c2, i64 1, u64 (r.what), .slice none 0 0, .string ⟨#[]⟩, .slice none 0 0, i64 1, u64 (r.why), .slice none 0 0, .string ⟨#[]⟩, .slice none 0 0, i64 1, u64 (r.at'), .slice none 0 0, .string ⟨#[]⟩, .slice none 0 0] 51)) := (((((hWE.trans hU1).trans hU2).trans hU3).trans hU4)).alloc _
      generalize (U4.alloc (.cells #[i64 1, u64 (r.kind), .slice none 0 0, .string ⟨#[]⟩, .slice none 0 0, i64 4, u64 0, .slice none 0 0, .string ⟨#[]⟩, .slice a2 m2 c2, i64 1, u64 (r.what), .slice none 0 0, .string ⟨#[]⟩, .slice none 0 0, i64 1, u64 (r.why), .slice none 0 0, .string ⟨#[]⟩, .slice none 0 0, i64 1, u64 (r.at'), .slice none 0 0, .string ⟨#[]⟩, .slice none 0 0] 51)) = V5 at *
      refine FN.mono (rlist_c _ _ _ V5) ?_
      rintro _ V6 ⟨rfl, hE6⟩
      have i5 := (i4.ext hE5).ext hE6
      simp [e2, i5.cell 0 _ rfl, i5.cell 1 _ rfl, i5.cell 2 _ rfl, i5.cell 3 _ rfl, i5.cell 4 _ rfl, i5.thaw, cell_setCell]
      exact fin V6 _ _ (hE5.trans hE6) (hm.ext hE6)
    · have e0 : itemR r = listI [uintI r.kind, uintI r.num, uintI r.node, uintI r.reg] := by
        unfold itemR partsR
        rw [if_neg (by omega), if_pos kk]
        rfl
      rw [e0]
      simp [e1, e3, kk, x4.cell 0 _ rfl]
      simp [f4, f5, f6, k4.cell 0 _ rfl, k4.cell 1 _ rfl, k4.cell 2 _ rfl, k4.cell 3 _ rfl, k4.cell 4 _ rfl, h4.cell 0 _ rfl, h4.cell 1 _ rfl, h4.cell 2 _ rfl, h4.cell 3 _ rfl, h4.cell 4 _ rfl, h5.cell 0 _ rfl, h5.cell 1 _ rfl, h5.cell 2 _ rfl, h5.cell 3 _ rfl, h5.cell 4 _ rfl, h6.cell 0 _ rfl, h6.cell 1 _ rfl, h6.cell 2 _ rfl, h6.cell 3 _ rfl, h6.cell 4 _ rfl]
      have hm : ItP (fun k => V4.heap.size ≤ k) (V4.alloc (.cells #[i64 1, u64 (r.kind), .slice none 0 0, .string ⟨#[]⟩, .slice none 0 0, i64 1, u64 (r.num), .slice none 0 0, .string ⟨#[]⟩, .slice none 0 0, i64 1, u64 (r.node), .slice none 0 0, .string ⟨#[]⟩, .slice none 0 0, i64 1, u64 (r.reg), .slice none 0 0, .string ⟨#[]⟩, .slice none 0 0] 51)) (listI [uintI r.kind, uintI r.num, uintI r.node, uintI r.reg]) [i64 4, u64 0, .slice none 0 0, .string ⟨#[]⟩, .slice (some ⟨V4.heap.size, 0, none⟩) 4 4] :=
        made_it (css := [leafC 1 r.kind, leafC 1 r.num, leafC 1 r.node, leafC 1 r.reg]) (((((itPs_nil).cons (leaf_it 1 r.reg)).cons (leaf_it 1 r.node)).cons (leaf_it 1 r.num)).cons (leaf_it 1 r.kind)) 4 rfl rfl (Ext.refl V4).size (by omega) 51
      have hE5 : Ext V4 (V4.alloc (.cells #[i64 1, u64 (r.kind), .slice none 0 0, .string ⟨#[]⟩, .slice none 0 0, i64 1, u64 (r.num), .slice none 0 0, .string ⟨#[]⟩, .slice none 0 0, i64 1, u64 (r.node), .slice none 0 0, .string ⟨#[]⟩, .slice none 0 0, i64 1, u64 (r.reg), .slice none 0 0, .string ⟨#[]⟩, .slice none 0 0] 51)) := (Ext.refl V4).alloc _
      generalize (V4.alloc (.cells #[i64 1, u64 (r.kind), .slice none 0 0, .string ⟨#[]⟩, .slice none 0 0, i64 1, u64 (r.num), .slice none 0 0, .string ⟨#[]⟩, .slice none 0 0, i64 1, u64 (r.node), .slice none 0 0, .string ⟨#[]⟩, .slice none 0 0, i64 1, u64 (r.reg), .slice none 0 0, .string ⟨#[]⟩, .slice none 0 0] 51)) = V5 at *
      refine FN.mono (rlist_c _ _ _ V5) ?_
      rintro _ V6 ⟨rfl, hE6⟩
      have i5 := (i4.ext hE5).ext hE6
      simp [e2, i5.cell 0 _ rfl, i5.cell 1 _ rfl, i5.cell 2 _ rfl, i5.cell 3 _ rfl, i5.cell 4 _ rfl, i5.thaw, cell_setCell]
      exact fin V6 _ _ (hE5.trans hE6) (hm.ext hE6)
    · have e0 : itemR r = listI [uintI r.kind, uintI r.num, uintI r.node, uintI r.reg, .mk 5 yes [] ⟨#[]⟩ [], uintI r.til] := by
        unfold itemR partsR
        rw [if_neg (by omega), if_neg (by omega), if_pos kk]
        rw [hyes]
        rfl
      rw [e0]
      simp [e1, kk, x4.cell 0 _ rfl]
      refine WC_drawC 8 (.F 0 <| .F 1 <| .F 2 <| .F 3 <| .F 4 <| .F 5 <| .F 6 <| .C 7 <| .Z) (fun _ => false) rfl (by kernel_rfl) fun W9 hW9 => ?_
      have hWE : Ext V4 W9 := hW9 ▸ Ext.drew _
      replace x4 := x4.ext hWE
      replace k4 := k4.ext hWE
      replace h4 := h4.ext hWE
      replace h5 := h5.ext hWE
      replace h6 := h6.ext hWE
      replace h7 := h7.ext hWE
      simp [e1, e3, f4, f5, f6, f7, x4.cell 13 _ rfl, k4.cell 0 _ rfl, k4.cell 1 _ rfl, k4.cell 2 _ rfl, k4.cell 3 _ rfl, k4.cell 4 _ rfl, h4.cell 0 _ rfl, h4.cell 1 _ rfl, h4.cell 2 _ rfl, h4.cell 3 _ rfl, h4.cell 4 _ rfl, h5.cell 0 _ rfl, h5.cell 1 _ rfl, h5.cell 2 _ rfl, h5.cell 3 _ rfl, h5.cell 4 _ rfl, h6.cell 0 _ rfl, h6.cell 1 _ rfl, h6.cell 2 _ rfl, h6.cell 3 _ rfl, h6.cell 4 _ rfl, h7.cell 0 _ rfl, h7.cell 1 _ rfl, h7.cell 2 _ rfl, h7.cell 3 _ rfl, h7.cell 4 _ rfl]
      refine FN.mono (ruint_c r.til W9) ?_
      rintro _ U1 ⟨rfl, hU1⟩
      simp
      refine KR_ext hU1 ?_
      simp
      have hm : ItP (fun k => V4.heap.size ≤ k) (U1.alloc (.cells #[i64 1, u64 (r.kind), .slice none 0 0, .string ⟨#[]⟩, .slice none 0 0, i64 1, u64 (r.num), .slice none 0 0, .string ⟨#[]⟩, .slice none 0 0, i64 1, u64 (r.node), .slice none 0 0, .string ⟨#[]⟩, .slice none 0 0, i64 1, u64 (r.reg), .slice none 0 0, .string ⟨#[]⟩, .slice none 0 0, i64 5, u64 (yes), .slice none 0 0, .string ⟨#[]⟩, .slice none 0 0, i64 1, u64 (r.til), .slice none 0 0, .string ⟨#[]⟩, .slice none 0 0] 51)) (listI [uintI r.kind, uintI r.num, uintI r.node, uintI r.reg, .mk 5 yes [] ⟨#[]⟩ [], uintI r.til]) [i64 4, u64 0, .slice none 0 0, .string ⟨#[]⟩, .slice (some ⟨U1.heap.size, 0, none⟩) 6 6] :=
        made_it (css := [leafC 1 r.kind, leafC 1 r.num, leafC 1 r.node, leafC 1 r.reg, leafC 5 yes, leafC 1 r.til]) (((((((itPs_nil).cons (leaf_it 1 r.til)).cons (leaf_it 5 yes)).cons (leaf_it 1 r.reg)).cons (leaf_it 1 r.node)).cons (leaf_it 1 r.num)).cons (leaf_it 1 r.kind)) 6 rfl rfl ((hWE.trans hU1)).size (by omega) 51
      have hE5 : Ext V4 (U1.alloc (.cells #[i64 1, u64 (r.kind), .slice none 0 0, .string ⟨#[]⟩, .slice none 0 0, i64 1, u64 (r.num), .slice none 0 0, .string ⟨#[]⟩, .slice none 0 0, i64 1, u64 (r.node), .slice none 0 0, .string ⟨#[]⟩, .slice none 0 0, i64 1, u64 (r.reg), .slice none 0 0, .string ⟨#[]⟩, .slice none 0 0, i64 5, u64 (yes), .slice none 0 0, .string ⟨#[]⟩, .slice none 0 0, i64 1, u64 (r.til), .slice none 0 0, .string ⟨#[]⟩, .slice none 0 0] 51)) := ((hWE.trans hU1)).alloc _
      generalize (U1.alloc (.cells #[i64 1, u64 (r.kind), .slice none 0 0, .string ⟨#[]⟩, .slice none 0 0, i64 1, u64 (r.num), .slice none 0 0, .string ⟨#[]⟩, .slice none 0 0, i64 1, u64 (r.node), .slice none 0 0, .string ⟨#[]⟩, .slice none 0 0, i64 1, u64 (r.reg), .slice none 0 0, .string ⟨#[]⟩, .slice none 0 0, i64 5, u64 (yes), .slice none 0 0, .string ⟨#[]⟩, .slice none 0 0, i64 1, u64 (r.til), .slice none 0 0, .string ⟨#[]⟩, .slice none 0 0] 51)) = V5 at *
      refine FN.mono (rlist_c _ _ _ V5) ?_
      rintro _ V6 ⟨rfl, hE6⟩
      have i5 := (i4.ext hE5).ext hE6
      simp [e2, i5.cell 0 _ rfl, i5.cell 1 _ rfl, i5.cell 2 _ rfl, i5.cell 3 _ rfl, i5.cell 4 _ rfl, i5.thaw, cell_setCell]
      exact fin V6 _ _ (hE5.trans hE6) (hm.ext hE6)
    · have e0 : itemR r = listI [uintI r.kind, uintI r.node, uintI r.fro, uintI r.til, uintI r.lev] := by
        unfold itemR partsR
        rw [if_neg (by omega), if_neg (by omega), if_neg (by omega), if_pos kk]
        rfl
      rw [e0]
      have ql := wrap64u r.lev hr.lev.1 (by have := hr.lev.2; omega)
      simp [e1, kk, x4.cell 0 _ rfl]
      refine WC_drawC 12 (.F 0 <| .F 1 <| .F 2 <| .F 3 <| .F 5 <| .F 6 <| .F 8 <| .F 9 <| .F 10 <| .C 4 <| .C 7 <| .C 11 <| .Z) (fun _ => false) rfl (by kernel_rfl) fun W9 hW9 => ?_
      have hWE : Ext V4 W9 := hW9 ▸ Ext.drew _
      replace x4 := x4.ext hWE
      replace k4 := k4.ext hWE
      replace h5 := h5.ext hWE
      simp [e1, e3, f5, x4.cell 12 _ rfl, x4.cell 13 _ rfl, x4.cell 14 _ rfl, k4.cell 0 _ rfl, k4.cell 1 _ rfl, k4.cell 2 _ rfl, k4.cell 3 _ rfl, k4.cell 4 _ rfl, h5.cell 0 _ rfl, h5.cell 1 _ rfl, h5.cell 2 _ rfl, h5.cell 3 _ rfl, h5.cell 4 _ rfl, ql]
      refine FN.mono (ruint_c r.fro W9) ?_
      rintro _ U1 ⟨rfl, hU1⟩
      simp
      refine KR_ext hU1 ?_
      simp
      refine FN.mono (ruint_c r.til U1) ?_
      rintro _ U2 ⟨rfl, hU2⟩
      simp
      refine KR_ext hU2 ?_
      simp
      refine FN.mono (ruint_c r.lev U2) ?_
      rintro _ U3 ⟨rfl, hU3⟩
      simp
      refine KR_ext hU3 ?_
      simp
      have hm : ItP (fun k => V4.heap.size ≤ k) (U3.alloc (.cells #[i64 1, u64 (r.kind), .slice none 0 0, .string ⟨#[]⟩, .slice none 0 0, i64 1, u64 (r.node), .slice none 0 0, .string ⟨#[]⟩, .slice none 0 0, i64 1, u64 (r.fro), .slice none 0 0, .string ⟨#[]⟩, .slice none 0 0, i64 1, u64 (r.til), .slice none 0 0, .string ⟨#[]⟩, .slice none 0 0, i64 1, u64 (r.lev), .slice none 0 0, .string ⟨#[]⟩, .slice none 0 0] 51)) (listI [uintI r.kind, uintI r.node, uintI r.fro, uintI r.til, uintI r.lev]) [i64 4, u64 0, .slice none 0 0, .string ⟨#[]⟩, .slice (some ⟨U3.heap.size, 0, none⟩) 5 5] :=
        made_it (css := [leafC 1 r.kind, leafC 1 r.node, leafC 1 r.fro, leafC 1 r.til, leafC 1 r.lev]) ((((((itPs_nil).cons (leaf_it 1 r.lev)).cons (leaf_it 1 r.til)).cons (leaf_it 1 r.fro)).cons (leaf_it 1 r.node)).cons (leaf_it 1 r.kind)) 5 rfl rfl ((((hWE.trans hU1).trans hU2).trans hU3)).size (by omega) 51
      have hE5 : Ext V4 (U3.alloc (.cells #[i64 1, u64 (r.kind), .slice none 0 0, .string ⟨#[]⟩, .slice none 0 0, i64 1, u64 (r.node), .slice none 0 0, .string ⟨#[]⟩, .slice none 0 0, i64 1, u64 (r.fro), .slice none 0 0, .string ⟨#[]⟩, .slice none 0 0, i64 1, u64 (r.til), .slice none 0 0, .string ⟨#[]⟩, .slice none 0 0, i64 1, u64 (r.lev), .slice none 0 0, .string ⟨#[]⟩, .slice none 0 0] 51)) := ((((hWE.trans hU1).trans hU2).trans hU3)).alloc _
      generalize (U3.alloc (.cells #[i64 1, u64 (r.kind), .slice none 0 0, .string ⟨#[]⟩, .slice none 0 0, i64 1, u64 (r.node), .slice none 0 0, .string ⟨#[]⟩, .slice none 0 0, i64 1, u64 (r.fro), .slice none 0 0, .string ⟨#[]⟩, .slice none 0 0, i64 1, u64 (r.til), .slice none 0 0, .string ⟨#[]⟩, .slice none 0 0, i64 1, u64 (r.lev), .slice none 0 0, .string ⟨#[]⟩, .slice none 0 0] 51)) = V5 at *
      refine FN.mono (rlist_c _ _ _ V5) ?_
      rintro _ V6 ⟨rfl, hE6⟩
      have i5 := (i4.ext hE5).ext hE6
      simp [e2, i5.cell 0 _ rfl, i5.cell 1 _ rfl, i5.cell 2 _ rfl, i5.cell 3 _ rfl, i5.cell 4 _ rfl, i5.thaw, cell_setCell]
      exact fin V6 _ _ (hE5.trans hE6) (hm.ext hE6)
    · have e0 : itemR r = listI [uintI r.kind, uintI r.node, uintI r.reg, uintI r.num, .mk 5 yes [] ⟨#[]⟩ []] := by
        unfold itemR partsR
        rw [if_neg (by omega), if_neg (by omega), if_neg (by omega), if_neg (by omega)]
        rw [hyes]
        rfl
      rw [e0]
      simp [e1, e3, kk, x4.cell 0 _ rfl]
      simp [f4, f5, f6, f7, k4.cell 0 _ rfl, k4.cell 1 _ rfl, k4.cell 2 _ rfl, k4.cell 3 _ rfl, k4.cell 4 _ rfl, h5.cell 0 _ rfl, h5.cell 1 _ rfl, h5.cell 2 _ rfl, h5.cell 3 _ rfl, h5.cell 4 _ rfl, h6.cell 0 _ rfl, h6.cell 1 _ rfl, h6.cell 2 _ rfl, h6.cell 3 _ rfl, h6.cell 4 _ rfl, h4.cell 0 _ rfl, h4.cell 1 _ rfl, h4.cell 2 _ rfl, h4.cell 3 _ rfl, h4.cell 4 _ rfl, h7.cell 0 _ rfl, h7.cell 1 _ rfl, h7.cell 2 _ rfl, h7.cell 3 _ rfl, h7.cell 4 _ rfl]
      have hm : ItP (fun k => V4.heap.size ≤ k) (V4.alloc (.cells #[i64 1, u64 (r.kind), .slice none 0 0, .string ⟨#[]⟩, .slice none 0 0, i64 1, u64 (r.node), .slice none 0 0, .string ⟨#[]⟩, .slice none 0 0, i64 1, u64 (r.reg), .slice none 0 0, .string ⟨#[]⟩, .slice none 0 0, i64 1, u64 (r.num), .slice none 0 0, .string ⟨#[]⟩, .slice none 0 0, i64 5, u64 (yes), .slice none 0 0, .string ⟨#[]⟩, .slice none 0 0] 51)) (listI [uintI r.kind, uintI r.node, uintI r.reg, uintI r.num, .mk 5 yes [] ⟨#[]⟩ []]) [i64 4, u64 0, .slice none 0 0, .string ⟨#[]⟩, .slice (some ⟨V4.heap.size, 0, none⟩) 5 5] :=
        made_it (css := [leafC 1 r.kind, leafC 1 r.node, leafC 1 r.reg, leafC 1 r.num, leafC 5 yes]) ((((((itPs_nil).cons (leaf_it 5 yes)).cons (leaf_it 1 r.num)).cons (leaf_it 1 r.reg)).cons (leaf_it 1 r.node)).cons (leaf_it 1 r.kind)) 5 rfl rfl (Ext.refl V4).size (by omega) 51
      have hE5 : Ext V4 (V4.alloc (.cells #[i64 1, u64 (r.kind), .slice none 0 0, .string ⟨#[]⟩, .slice none 0 0, i64 1, u64 (r.node), .slice none 0 0, .string ⟨#[]⟩, .slice none 0 0, i64 1, u64 (r.reg), .slice none 0 0, .string ⟨#[]⟩, .slice none 0 0, i64 1, u64 (r.num), .slice none 0 0, .string ⟨#[]⟩, .slice none 0 0, i64 5, u64 (yes), .slice none 0 0, .string ⟨#[]⟩, .slice none 0 0] 51)) := (Ext.refl V4).alloc _
      generalize (V4.alloc (.cells #[i64 1, u64 (r.kind), .slice none 0 0, .string ⟨#[]⟩, .slice none 0 0, i64 1, u64 (r.node), .slice none 0 0, .string ⟨#[]⟩, .slice none 0 0, i64 1, u64 (r.reg), .slice none 0 0, .string ⟨#[]⟩, .slice none 0 0, i64 1, u64 (r.num), .slice none 0 0, .string ⟨#[]⟩, .slice none 0 0, i64 5, u64 (yes), .slice none 0 0, .string ⟨#[]⟩, .slice none 0 0] 51)) = V5 at *
      refine FN.mono (rlist_c _ _ _ V5) ?_
      rintro _ V6 ⟨rfl, hE6⟩
      have i5 := (i4.ext hE5).ext hE6
      simp [e2, i5.cell 0 _ rfl, i5.cell 1 _ rfl, i5.cell 2 _ rfl, i5.cell 3 _ rfl, i5.cell 4 _ rfl, i5.thaw, cell_setCell]
      exact fin V6 _ _ (hE5.trans hE6) (hm.ext hE6)
end Go.Proofs
