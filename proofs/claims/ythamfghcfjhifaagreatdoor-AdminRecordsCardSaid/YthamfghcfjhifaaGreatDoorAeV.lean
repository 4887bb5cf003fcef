/-
  Contracts of the functions that the law reaches, step by step.
-/
import Derived.Test.YthamfghcfjhifaaGreatDoorAeT
namespace Go.Proofs
open Pk
set_option maxRecDepth 10000
attribute [local simp] beq_dec bne_dec
theorem nums_back {x : List Int} (hx : ∀ c ∈ x, 0 ≤ c ∧ c ≤ 255) : (strOfNums x).data.toList.map (fun c => (c.toNat : Int)) = x := by
  rw [strOfNums_data, List.map_map]
  conv => rhs; rw [← List.map_id x]
  refine List.map_congr_left fun c hc => ?_
  have := hx c hc
  simp
  omega
theorem strOf_inj {x y : List Int} (hx : ∀ c ∈ x, 0 ≤ c ∧ c ≤ 255) (hy : ∀ c ∈ y, 0 ≤ c ∧ c ≤ 255) : strOfNums x = strOfNums y ↔ x = y :=
  ⟨fun h => by rw [← nums_back hx, h, nums_back hy], fun h => by rw [h]⟩
set_option maxHeartbeats 2000000 in
theorem lawHolds_c {a b : Rec} (ha : RecOk a) (hb : RecOk b) (w : World) : FN Tryz.prog 7 [recV a, recV b] w fun e w' => e = .returned (.bool true) ∧ Ext w w' := by
  refine FN_enter Tryz.func7 rfl rfl (by kernel_rfl) ?_
  simp
  have hE1 : Ext w ((w.alloc (.cells #[i64 a.kind, u32 a.nn, u32 a.ns, u64 a.nt, u32 a.nq, i64 a.what, i64 a.why, u64 a.at', u64 a.num, u32 a.node, u32 a.reg, .bool a.yes, u64 a.fro, u64 a.til, u8 a.lev] 30)).alloc (.cells #[i64 b.kind, u32 b.nn, u32 b.ns, u64 b.nt, u32 b.nq, i64 b.what, i64 b.why, u64 b.at', u64 b.num, u32 b.node, u32 b.reg, .bool b.yes, u64 b.fro, u64 b.til, u8 b.lev] 30)) := ((Ext.refl w).alloc _).alloc _
  have x1 : Blk ((w.alloc (.cells #[i64 a.kind, u32 a.nn, u32 a.ns, u64 a.nt, u32 a.nq, i64 a.what, i64 a.why, u64 a.at', u64 a.num, u32 a.node, u32 a.reg, .bool a.yes, u64 a.fro, u64 a.til, u8 a.lev] 30)).alloc (.cells #[i64 b.kind, u32 b.nn, u32 b.ns, u64 b.nt, u32 b.nq, i64 b.what, i64 b.why, u64 b.at', u64 b.num, u32 b.node, u32 b.reg, .bool b.yes, u64 b.fro, u64 b.til, u8 b.lev] 30)) w.heap.size (recC a) := (Blk.new w (recC a) 30).ext ((Ext.refl _).alloc _)
  have y1 : Blk ((w.alloc (.cells #[i64 a.kind, u32 a.nn, u32 a.ns, u64 a.nt, u32 a.nq, i64 a.what, i64 a.why, u64 a.at', u64 a.num, u32 a.node, u32 a.reg, .bool a.yes, u64 a.fro, u64 a.til, u8 a.lev] 30)).alloc (.cells #[i64 b.kind, u32 b.nn, u32 b.ns, u64 b.nt, u32 b.nq, i64 b.what, i64 b.why, u64 b.at', u64 b.num, u32 b.node, u32 b.reg, .bool b.yes, u64 b.fro, u64 b.til, u8 b.lev] 30)) (w.heap.size + 1) (recC b) := by
    have := Blk.new (w.alloc (.cells #[i64 a.kind, u32 a.nn, u32 a.ns, u64 a.nt, u32 a.nq, i64 a.what, i64 a.why, u64 a.at', u64 a.num, u32 a.node, u32 a.reg, .bool a.yes, u64 a.fro, u64 a.til, u8 a.lev] 30)) (recC b) 30
    simpa using this
  generalize ((w.alloc (.cells #[i64 a.kind, u32 a.nn, u32 a.ns, u64 a.nt, u32 a.nq, i64 a.what, i64 a.why, u64 a.at', u64 a.num, u32 a.node, u32 a.reg, .bool a.yes, u64 a.fro, u64 a.til, u8 a.lev] 30)).alloc (.cells #[i64 b.kind, u32 b.nn, u32 b.ns, u64 b.nt, u32 b.nq, i64 b.what, i64 b.why, u64 b.at', u64 b.num, u32 b.node, u32 b.reg, .bool b.yes, u64 b.fro, u64 b.til, u8 b.lev] 30)) = w1 at *
  refine FN.mono (aencode_c ha w1) ?_
  rintro _ w2 hN1
  have hE2 := hN1.ext
  have x2 := x1.ext hE2
  have y2 := y1.ext hE2
  by_cases ra : rightE a = 0
  · obtain ⟨v1, rfl, hv1⟩ := hN1.ok ra
    obtain ⟨a1, m1, c1, rfl⟩ := hv1.isSlice
    simp [y2.cell 0 _ rfl, y2.cell 1 _ rfl, y2.cell 2 _ rfl, y2.cell 3 _ rfl, y2.cell 4 _ rfl, y2.cell 5 _ rfl, y2.cell 6 _ rfl, y2.cell 7 _ rfl, y2.cell 8 _ rfl, y2.cell 9 _ rfl, y2.cell 10 _ rfl, y2.cell 11 _ rfl, y2.cell 12 _ rfl, y2.cell 13 _ rfl, y2.cell 14 _ rfl]
    refine FN.mono (aencode_c hb w2) ?_
    rintro _ w3 hN2
    have hE3 := hN2.ext
    have x3 := x2.ext hE3
    have y3 := y2.ext hE3
    by_cases rb : rightE b = 0
    · obtain ⟨v2, rfl, hv2⟩ := hN2.ok rb
      obtain ⟨a2, m2, c2, rfl⟩ := hv2.isSlice
      simp
      refine FN.mono (num_c 0 w3) ?_
      rintro _ w4 ⟨rfl, rfl⟩
      simp
      refine FN.mono (adecodeR_c ha ra (bs_ext hv1 hE3)) ?_
      rintro _ w5 ⟨rfl, hE5⟩
      simp
      have hE6 : Ext w5 (w5.alloc (.cells #[i64 a.kind, u32 a.nn, u32 a.ns, u64 a.nt, u32 a.nq, i64 a.what, i64 a.why, u64 a.at', u64 a.num, u32 a.node, u32 a.reg, .bool a.yes, u64 a.fro, u64 a.til, u8 a.lev] 30)) := (Ext.refl _).alloc _
      have r6 : Blk (w5.alloc (.cells #[i64 a.kind, u32 a.nn, u32 a.ns, u64 a.nt, u32 a.nq, i64 a.what, i64 a.why, u64 a.at', u64 a.num, u32 a.node, u32 a.reg, .bool a.yes, u64 a.fro, u64 a.til, u8 a.lev] 30)) w5.heap.size (recC a) := Blk.new w5 (recC a) 30
      generalize (w5.alloc (.cells #[i64 a.kind, u32 a.nn, u32 a.ns, u64 a.nt, u32 a.nq, i64 a.what, i64 a.why, u64 a.at', u64 a.num, u32 a.node, u32 a.reg, .bool a.yes, u64 a.fro, u64 a.til, u8 a.lev] 30)) = w6 at *
      have hE36 := hE5.trans hE6
      have x6 := x3.ext hE36
      have y6 := y3.ext hE36
      as_aux_lemma =>
        refine FN.mono (num_c 0 w6) ?_
        rintro _ w7 ⟨rfl, rfl⟩
        have hq := neqRec a a w7
        simp [r6.cell 0 _ rfl, r6.cell 1 _ rfl, r6.cell 2 _ rfl, r6.cell 3 _ rfl, r6.cell 4 _ rfl, r6.cell 5 _ rfl, r6.cell 6 _ rfl, r6.cell 7 _ rfl, r6.cell 8 _ rfl, r6.cell 9 _ rfl, r6.cell 10 _ rfl, r6.cell 11 _ rfl, r6.cell 12 _ rfl, r6.cell 13 _ rfl, r6.cell 14 _ rfl, x6.cell 0 _ rfl, x6.cell 1 _ rfl, x6.cell 2 _ rfl, x6.cell 3 _ rfl, x6.cell 4 _ rfl, x6.cell 5 _ rfl, x6.cell 6 _ rfl, x6.cell 7 _ rfl, x6.cell 8 _ rfl, x6.cell 9 _ rfl, x6.cell 10 _ rfl, x6.cell 11 _ rfl, x6.cell 12 _ rfl, x6.cell 13 _ rfl, x6.cell 14 _ rfl, hq]
        refine FN.mono (num_c 0 w7) ?_
        rintro _ w8 ⟨rfl, rfl⟩
        simp
        refine FN.mono (num_c 0 w8) ?_
        rintro _ w9 ⟨rfl, rfl⟩
        simp
        as_aux_lemma =>
          refine WC_drawQ 8 rfl (by kernel_rfl) ?_
          have hW : Ext w9 w9.drew := Ext.drew _
          generalize w9.drew = W at *
          have x9 := x6.ext hW
          have y9 := y6.ext hW
          have c1 : (convert 31 9 (.slice a1 (bytesR a).length m1)).run Tryz.prog W = .ok (.string (strOfNums (bytesR a))) W := conv_b (bs_ext hv1 (hE3.trans (hE36.trans hW)))
          have c2 : (convert 31 9 (.slice a2 (bytesR b).length m2)).run Tryz.prog W = .ok (.string (strOfNums (bytesR b))) W := conv_b (bs_ext hv2 (hE36.trans hW))
          have hq2 := eqRec a b W
          simp [x9.cell 0 _ rfl, x9.cell 1 _ rfl, x9.cell 2 _ rfl, x9.cell 3 _ rfl, x9.cell 4 _ rfl, x9.cell 5 _ rfl, x9.cell 6 _ rfl, x9.cell 7 _ rfl, x9.cell 8 _ rfl, x9.cell 9 _ rfl, x9.cell 10 _ rfl, x9.cell 11 _ rfl, x9.cell 12 _ rfl, x9.cell 13 _ rfl, x9.cell 14 _ rfl, y9.cell 0 _ rfl, y9.cell 1 _ rfl, y9.cell 2 _ rfl, y9.cell 3 _ rfl, y9.cell 4 _ rfl, y9.cell 5 _ rfl, y9.cell 6 _ rfl, y9.cell 7 _ rfl, y9.cell 8 _ rfl, y9.cell 9 _ rfl, y9.cell 10 _ rfl, y9.cell 11 _ rfl, y9.cell 12 _ rfl, y9.cell 13 _ rfl, y9.cell 14 _ rfl, c1, c2, hq2]
          have hst : strOfNums (bytesR a) = strOfNums (bytesR b) ↔ a = b := (strOf_inj (itemR_rdy ha ra).1.bytes (itemR_rdy hb rb).1.bytes).trans (bytesR_inj ha hb ra rb)
          rw [show (decide (strOfNums (bytesR a) = strOfNums (bytesR b)) == decide (a = b)) = true from by rw [beq_iff_eq, decide_eq_decide]; exact hst]
          simp
          refine FN.mono (works_c W) ?_
          rintro _ w10 ⟨rfl, hE10⟩
          simp
          exact hE1.trans (hE2.trans (hE3.trans (hE36.trans (hW.trans hE10))))
    · rw [hN2.no rb] at *
      simp
      refine FN.mono (num_c 0 w3) ?_
      rintro _ w4 ⟨rfl, rfl⟩
      simp
      refine FN.mono (adecodeR_c ha ra (bs_ext hv1 hE3)) ?_
      rintro _ w5 ⟨rfl, hE5⟩
      simp
      have hE6 : Ext w5 (w5.alloc (.cells #[i64 a.kind, u32 a.nn, u32 a.ns, u64 a.nt, u32 a.nq, i64 a.what, i64 a.why, u64 a.at', u64 a.num, u32 a.node, u32 a.reg, .bool a.yes, u64 a.fro, u64 a.til, u8 a.lev] 30)) := (Ext.refl _).alloc _
      have r6 : Blk (w5.alloc (.cells #[i64 a.kind, u32 a.nn, u32 a.ns, u64 a.nt, u32 a.nq, i64 a.what, i64 a.why, u64 a.at', u64 a.num, u32 a.node, u32 a.reg, .bool a.yes, u64 a.fro, u64 a.til, u8 a.lev] 30)) w5.heap.size (recC a) := Blk.new w5 (recC a) 30
      generalize (w5.alloc (.cells #[i64 a.kind, u32 a.nn, u32 a.ns, u64 a.nt, u32 a.nq, i64 a.what, i64 a.why, u64 a.at', u64 a.num, u32 a.node, u32 a.reg, .bool a.yes, u64 a.fro, u64 a.til, u8 a.lev] 30)) = w6 at *
      have hE36 := hE5.trans hE6
      have x6 := x3.ext hE36
      as_aux_lemma =>
        refine FN.mono (num_c 0 w6) ?_
        rintro _ w7 ⟨rfl, rfl⟩
        have hq := neqRec a a w7
        simp [r6.cell 0 _ rfl, r6.cell 1 _ rfl, r6.cell 2 _ rfl, r6.cell 3 _ rfl, r6.cell 4 _ rfl, r6.cell 5 _ rfl, r6.cell 6 _ rfl, r6.cell 7 _ rfl, r6.cell 8 _ rfl, r6.cell 9 _ rfl, r6.cell 10 _ rfl, r6.cell 11 _ rfl, r6.cell 12 _ rfl, r6.cell 13 _ rfl, r6.cell 14 _ rfl, x6.cell 0 _ rfl, x6.cell 1 _ rfl, x6.cell 2 _ rfl, x6.cell 3 _ rfl, x6.cell 4 _ rfl, x6.cell 5 _ rfl, x6.cell 6 _ rfl, x6.cell 7 _ rfl, x6.cell 8 _ rfl, x6.cell 9 _ rfl, x6.cell 10 _ rfl, x6.cell 11 _ rfl, x6.cell 12 _ rfl, x6.cell 13 _ rfl, x6.cell 14 _ rfl, hq]
        refine FN.mono (num_c 0 w7) ?_
        rintro _ w8 ⟨rfl, rfl⟩
        simp
        refine FN.mono (num_c 2 w8) ?_
        rintro _ w9 ⟨rfl, rfl⟩
        simp
        refine FN.mono (num_c 0 w9) ?_
        rintro _ wa ⟨rfl, rfl⟩
        simp
        refine FN.mono (num_c 2 wa) ?_
        rintro _ wb ⟨rfl, rfl⟩
        simp
        refine FN.mono (num_c 2 wb) ?_
        rintro _ wc ⟨rfl, rfl⟩
        simp
        refine FN.mono (works_c wc) ?_
        rintro _ w10 ⟨rfl, hE10⟩
        simp
        exact hE1.trans (hE2.trans (hE3.trans (hE36.trans hE10)))
  · rw [hN1.no ra] at *
    simp [y2.cell 0 _ rfl, y2.cell 1 _ rfl, y2.cell 2 _ rfl, y2.cell 3 _ rfl, y2.cell 4 _ rfl, y2.cell 5 _ rfl, y2.cell 6 _ rfl, y2.cell 7 _ rfl, y2.cell 8 _ rfl, y2.cell 9 _ rfl, y2.cell 10 _ rfl, y2.cell 11 _ rfl, y2.cell 12 _ rfl, y2.cell 13 _ rfl, y2.cell 14 _ rfl]
    refine FN.mono (aencode_c hb w2) ?_
    rintro _ w3 hN2
    have hE3 := hN2.ext
    as_aux_lemma =>
      by_cases rb : rightE b = 0
      · obtain ⟨v2, rfl, hv2⟩ := hN2.ok rb
        obtain ⟨a2, m2, c2, rfl⟩ := hv2.isSlice
        simp
        refine FN.mono (num_c 2 w3) ?_
        rintro _ w4 ⟨rfl, rfl⟩
        simp
        refine FN.mono (num_c 2 w4) ?_
        rintro _ w5 ⟨rfl, rfl⟩
        simp
        refine FN.mono (num_c 2 w5) ?_
        rintro _ w6 ⟨rfl, rfl⟩
        simp
        refine FN.mono (num_c 2 w6) ?_
        rintro _ w7 ⟨rfl, rfl⟩
        simp
        refine FN.mono (num_c 0 w7) ?_
        rintro _ w8 ⟨rfl, rfl⟩
        simp
        refine FN.mono (works_c w8) ?_
        rintro _ w10 ⟨rfl, hE10⟩
        simp
        exact hE1.trans (hE2.trans (hE3.trans hE10))
      · rw [hN2.no rb] at *
        simp
        refine FN.mono (num_c 2 w3) ?_
        rintro _ w4 ⟨rfl, rfl⟩
        simp
        refine FN.mono (num_c 2 w4) ?_
        rintro _ w5 ⟨rfl, rfl⟩
        simp
        refine FN.mono (num_c 2 w5) ?_
        rintro _ w6 ⟨rfl, rfl⟩
        simp
        refine FN.mono (num_c 2 w6) ?_
        rintro _ w7 ⟨rfl, rfl⟩
        simp
        refine FN.mono (num_c 2 w7) ?_
        rintro _ w8 ⟨rfl, rfl⟩
        simp
        refine FN.mono (num_c 2 w8) ?_
        rintro _ w9 ⟨rfl, rfl⟩
        simp
        refine FN.mono (works_c w9) ?_
        rintro _ w10 ⟨rfl, hE10⟩
        simp
        exact hE1.trans (hE2.trans (hE3.trans hE10))
end Go.Proofs
