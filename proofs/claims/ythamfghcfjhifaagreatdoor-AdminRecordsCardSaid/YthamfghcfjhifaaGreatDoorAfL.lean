/-
  Contracts of the functions that the law reaches, step by step.
-/
import Derived.Test.YthamfghcfjhifaaGreatDoorAfD
import Derived.Test.YthamfghcfjhifaaGreatDoorAfF
import Derived.Test.YthamfghcfjhifaaGreatDoorAfI
namespace Go.Proofs
open Pk
set_option maxRecDepth 10000
attribute [local simp] beq_dec bne_dec
theorem right_doc_item {r : Rec} (h : rightE r = 0) : (1 ≤ r.kind ∧ r.kind ≤ 5) ∧ 0 ≤ r.what ∧ 0 ≤ r.why ∧ (r.kind = 1 → r.nn ≠ 0) := by
  obtain ⟨hk, hf, -, -, hb⟩ := right_inv h
  refine ⟨hk, ?_⟩
  unfold fineR at hf
  by_cases k1 : r.kind = 1
  · rw [if_pos k1] at hf
    obtain ⟨i1, i2, i3, i4, i5⟩ := repF_inv hf
    exact ⟨by omega, i4, fun _ => (nameE_inv i1).1⟩
  · have e : (bareR r).what = 0 ∧ (bareR r).why = 0 := by
      unfold bareR
      rw [if_neg k1]
      repeat' split
      all_goals exact ⟨rfl, rfl⟩
    rw [hb] at e
    exact ⟨by omega, by omega, fun h => absurd h k1⟩
theorem docEnc_c {r : Rec} (hr : RecOk r) (h0 : rightE r = 0) (w : World) : FN Tryz.prog 15 [recV r] w fun e w' => ∃ v, e = .returned v ∧ Sl w' 1 v (bytesR r).length ((bytesR r).map u8) ∧ Ext w w' := by
  refine FN_enter Tryz.func15 rfl rfl (by kernel_rfl) ?_
  simp
  have hE1 : Ext w (w.alloc (.cells #[i64 r.kind, u32 r.nn, u32 r.ns, u64 r.nt, u32 r.nq, i64 r.what, i64 r.why, u64 r.at', u64 r.num, u32 r.node, u32 r.reg, .bool r.yes, u64 r.fro, u64 r.til, u8 r.lev] 30)) := (Ext.refl w).alloc _
  generalize (w.alloc (.cells #[i64 r.kind, u32 r.nn, u32 r.ns, u64 r.nt, u32 r.nq, i64 r.what, i64 r.why, u64 r.at', u64 r.num, u32 r.node, u32 r.reg, .bool r.yes, u64 r.fro, u64 r.til, u8 r.lev] 30)) = w1 at *
  obtain ⟨hk, hwh, hwy, hnn⟩ := right_doc_item h0
  refine FN.mono (docItem_c hr hk hwh hwy hnn w1) ?_
  rintro _ w2 ⟨cs, rfl, hit, hE2⟩
  simp
  refine FN.mono (docBytes_c (itemR_rdy hr h0).1 cs w2 hit (by have := (itemR_rdy hr h0).2; unfold bytesR at this; omega)) ?_
  rintro _ w3 ⟨v, rfl, ho, hE3⟩
  simp
  exact ⟨sl_of_own ho, hE1.trans (hE2.trans hE3)⟩
set_option maxHeartbeats 4000000 in
theorem lawRecords_c {r : Rec} (hr : RecOk r) (w : World) : FN Tryz.prog 3 [recV r] w fun e w' => e = .returned (.bool true) ∧ Ext w w' := by
  refine FN_enter Tryz.func3 rfl rfl (by kernel_rfl) ?_
  simp
  have hE1 : Ext w (w.alloc (.cells #[i64 r.kind, u32 r.nn, u32 r.ns, u64 r.nt, u32 r.nq, i64 r.what, i64 r.why, u64 r.at', u64 r.num, u32 r.node, u32 r.reg, .bool r.yes, u64 r.fro, u64 r.til, u8 r.lev] 30)) := (Ext.refl w).alloc _
  have x1 : Blk (w.alloc (.cells #[i64 r.kind, u32 r.nn, u32 r.ns, u64 r.nt, u32 r.nq, i64 r.what, i64 r.why, u64 r.at', u64 r.num, u32 r.node, u32 r.reg, .bool r.yes, u64 r.fro, u64 r.til, u8 r.lev] 30)) w.heap.size (recC r) := Blk.new w (recC r) 30
  generalize (w.alloc (.cells #[i64 r.kind, u32 r.nn, u32 r.ns, u64 r.nt, u32 r.nq, i64 r.what, i64 r.why, u64 r.at', u64 r.num, u32 r.node, u32 r.reg, .bool r.yes, u64 r.fro, u64 r.til, u8 r.lev] 30)) = w1 at *
  refine FN.mono (aencode_c hr w1) ?_
  rintro _ w2 hN
  have hE2 := hN.ext
  have x2 := x1.ext hE2
  by_cases h0 : rightE r = 0
  · obtain ⟨v1, rfl, hv1⟩ := hN.ok h0
    obtain ⟨a1, m1, c1, rfl⟩ := hv1.isSlice
    simp [x2.cell 0 _ rfl, x2.cell 1 _ rfl, x2.cell 2 _ rfl, x2.cell 3 _ rfl, x2.cell 4 _ rfl, x2.cell 5 _ rfl, x2.cell 6 _ rfl, x2.cell 7 _ rfl, x2.cell 8 _ rfl, x2.cell 9 _ rfl, x2.cell 10 _ rfl, x2.cell 11 _ rfl, x2.cell 12 _ rfl, x2.cell 13 _ rfl, x2.cell 14 _ rfl]
    refine FN.mono (check_c hr w2) ?_
    rintro _ w3 ⟨rfl, hE3⟩
    have x3 := x2.ext hE3
    simp [x3.cell 0 _ rfl, x3.cell 1 _ rfl, x3.cell 2 _ rfl, x3.cell 3 _ rfl, x3.cell 4 _ rfl, x3.cell 5 _ rfl, x3.cell 6 _ rfl, x3.cell 7 _ rfl, x3.cell 8 _ rfl, x3.cell 9 _ rfl, x3.cell 10 _ rfl, x3.cell 11 _ rfl, x3.cell 12 _ rfl, x3.cell 13 _ rfl, x3.cell 14 _ rfl]
    refine FN.mono (rright_c hr w3) ?_
    rintro _ w4 ⟨rfl, hE4⟩
    simp [h0]
    refine FN.mono (adecodeR_c hr h0 (bs_ext hv1 (hE3.trans hE4))) ?_
    rintro _ w5 ⟨rfl, hE5⟩
    have hE6 : Ext w5 (w5.alloc (.cells #[i64 r.kind, u32 r.nn, u32 r.ns, u64 r.nt, u32 r.nq, i64 r.what, i64 r.why, u64 r.at', u64 r.num, u32 r.node, u32 r.reg, .bool r.yes, u64 r.fro, u64 r.til, u8 r.lev] 30)) := (Ext.refl _).alloc _
    have r6 : Blk (w5.alloc (.cells #[i64 r.kind, u32 r.nn, u32 r.ns, u64 r.nt, u32 r.nq, i64 r.what, i64 r.why, u64 r.at', u64 r.num, u32 r.node, u32 r.reg, .bool r.yes, u64 r.fro, u64 r.til, u8 r.lev] 30)) w5.heap.size (recC r) := Blk.new w5 (recC r) 30
    simp
    generalize (w5.alloc (.cells #[i64 r.kind, u32 r.nn, u32 r.ns, u64 r.nt, u32 r.nq, i64 r.what, i64 r.why, u64 r.at', u64 r.num, u32 r.node, u32 r.reg, .bool r.yes, u64 r.fro, u64 r.til, u8 r.lev] 30)) = w6 at *
    have hE36 := (hE3.trans hE4).trans (hE5.trans hE6)
    have x6 := x2.ext hE36
    refine WC_drawL 20 (.F 0 <| .F 2 <| .D 1 <| .L 3 <| .L 4 <| .W 1 <| .C 5 <| .F 6 <| .F 7 <| .F 9 <| .F 12 <| .C 8 <| .C 10 <| .F 11 <| .C 13 <| .F 14 <| .F 15 <| .F 16 <| .F 17 <| .F 18 <| .F 19 <| .Z) (fun _ => false) (fun _ => false) (fun _ u _ => u = .string (strOfNums (bytesR r))) rfl (by kernel_rfl) (fun _ h => h) (fun _ _ _ _ h _ => h) fun W hW => ?_
    have hWE : Ext w6 W := hW ▸ Ext.drew _
    have xW := x6.ext hWE
    have rW := r6.ext hWE
    simp [xW.cell 0 _ rfl, xW.cell 1 _ rfl, xW.cell 2 _ rfl, xW.cell 3 _ rfl, xW.cell 4 _ rfl, xW.cell 5 _ rfl, xW.cell 6 _ rfl, xW.cell 7 _ rfl, xW.cell 8 _ rfl, xW.cell 9 _ rfl, xW.cell 10 _ rfl, xW.cell 11 _ rfl, xW.cell 12 _ rfl, xW.cell 13 _ rfl, xW.cell 14 _ rfl]
    refine RL_float (fun W' h' => ?_) ?_
    · have cv1 : (convert 31 9 (.slice a1 (bytesR r).length m1)).run Tryz.prog W' = .ok (.string (strOfNums (bytesR r))) W' := conv_b (bs_ext hv1 (hE36.trans (hWE.trans (agr_ext h'))))
      simp [cv1]
      exact Ext.refl _
    simp
    refine RL_loose fun W0 h0W => ?_
    simp
    refine FN.mono (docEnc_c hr h0 W0) ?_
    rintro _ W1 ⟨v2, rfl, hv2, hEW1⟩
    obtain ⟨a2, m2, c2, rfl⟩ := hv2.isSlice
    simp
    refine KR_ext hEW1 ?_
    simp
    refine RL_loose fun W4' h4 => ?_
    have cv2 : (convert 31 9 (.slice a2 (bytesR r).length m2)).run Tryz.prog W4' = .ok (.string (strOfNums (bytesR r))) W4' := conv_b (bs_ext hv2 h4)
    simp [cv2]
    refine KR_same ?_
    simp
    refine RL_wait fun u5 W5 h5 hu5 => ?_
    subst hu5
    have hE05 := (h0W.trans hEW1).trans (h4.trans h5)
    have x1 := xW.ext hE05
    have r1 := rW.ext hE05
    simp
    refine KR_same ?_
    simp
    refine FN.mono (num_c 0 W5) ?_
    rintro _ W2 ⟨rfl, rfl⟩
    simp
    refine KR_same ?_
    simp
    refine FN.mono (num_c 0 W2) ?_
    rintro _ W3 ⟨rfl, rfl⟩
    simp
    refine KR_same ?_
    simp
    refine FN.mono (num_c 0 W3) ?_
    rintro _ W4 ⟨rfl, rfl⟩
    simp
    refine KR_same ?_
    have hq := eqRec r r W4
    simp
    rw [show decide (IntKind.i64.wrap (IntKind.i64.wrap 0) = 0) = true from by decide]
    simp [x1.cell 0 _ rfl, x1.cell 1 _ rfl, x1.cell 2 _ rfl, x1.cell 3 _ rfl, x1.cell 4 _ rfl, x1.cell 5 _ rfl, x1.cell 6 _ rfl, x1.cell 7 _ rfl, x1.cell 8 _ rfl, x1.cell 9 _ rfl, x1.cell 10 _ rfl, x1.cell 11 _ rfl, x1.cell 12 _ rfl, x1.cell 13 _ rfl, x1.cell 14 _ rfl, r1.cell 0 _ rfl, r1.cell 1 _ rfl, r1.cell 2 _ rfl, r1.cell 3 _ rfl, r1.cell 4 _ rfl, r1.cell 5 _ rfl, r1.cell 6 _ rfl, r1.cell 7 _ rfl, r1.cell 8 _ rfl, r1.cell 9 _ rfl, r1.cell 10 _ rfl, r1.cell 11 _ rfl, r1.cell 12 _ rfl, r1.cell 13 _ rfl, r1.cell 14 _ rfl, hq]
    refine FN.mono (works_c W4) ?_
    rintro _ W6 ⟨rfl, hE7⟩
    simp
    exact hE1.trans (hE2.trans (hE36.trans (hWE.trans (hE05.trans hE7))))
  · rw [hN.no h0] at *
    simp [x2.cell 0 _ rfl, x2.cell 1 _ rfl, x2.cell 2 _ rfl, x2.cell 3 _ rfl, x2.cell 4 _ rfl, x2.cell 5 _ rfl, x2.cell 6 _ rfl, x2.cell 7 _ rfl, x2.cell 8 _ rfl, x2.cell 9 _ rfl, x2.cell 10 _ rfl, x2.cell 11 _ rfl, x2.cell 12 _ rfl, x2.cell 13 _ rfl, x2.cell 14 _ rfl]
    refine FN.mono (check_c hr w2) ?_
    rintro _ w3 ⟨rfl, hE3⟩
    have x3 := x2.ext hE3
    simp [x3.cell 0 _ rfl, x3.cell 1 _ rfl, x3.cell 2 _ rfl, x3.cell 3 _ rfl, x3.cell 4 _ rfl, x3.cell 5 _ rfl, x3.cell 6 _ rfl, x3.cell 7 _ rfl, x3.cell 8 _ rfl, x3.cell 9 _ rfl, x3.cell 10 _ rfl, x3.cell 11 _ rfl, x3.cell 12 _ rfl, x3.cell 13 _ rfl, x3.cell 14 _ rfl]
    refine FN.mono (rright_c hr w3) ?_
    rintro _ w4 ⟨rfl, hE4⟩
    rw [right_two h0]
    simp
    refine FN.mono (num_c 2 w4) ?_
    rintro _ w5 ⟨rfl, rfl⟩
    simp
    refine FN.mono (num_c 2 w5) ?_
    rintro _ w6 ⟨rfl, rfl⟩
    simp
    refine FN.mono (works_c w6) ?_
    rintro _ w7 ⟨rfl, hE7⟩
    simp
    exact hE1.trans (hE2.trans (hE3.trans (hE4.trans hE7)))
end Go.Proofs
